/- Helper lemmas that the proved statement rests on; no conditions of their own. -/
import Derived.Laws.StructEq
import Derived.Maps.AppendAt
import Derived.Lib.AppendStr
import Derived.Test.YtennokckmjcefaaGreatDoorGCt9
import Derived.Test.YtennokckmjcefaaGreatDoorGShf
set_option linter.unusedVariables false
set_option maxHeartbeats 4000000
set_option maxRecDepth 100000
namespace Go.Proofs.YtennokckmjcefaaGreatDoor
open Go.RowKit Go.Pw Go.Vc Go.Cs Go.Lib
theorem or32 : ∀ x : Fin 192, IntKind.i64.wrap (((BitVec.ofInt IntKind.i64.bits ((x.val : Nat) : Int) ||| BitVec.ofInt IntKind.i64.bits 32).toNat : Nat) : Int) = (((x.val ||| 32 : Nat)) : Int) := by decide +kernel
theorem zra : ∀ x : Fin 192, (97 ≤ (x.val ||| 32) ∧ (x.val ||| 32) ≤ 122) ↔ (65 ≤ x.val ∧ x.val ≤ 90) ∨ (97 ≤ x.val ∧ x.val ≤ 122) := by decide +kernel
theorem zmN (r : Nat) (h : r < 192) : kindN r = if (48 ≤ r ∧ r ≤ 57) ∨ (65 ≤ r ∧ r ≤ 90) ∨ (97 ≤ r ∧ r ≤ 122) then 1 else 0 := by
 unfold kindN
 rw [if_neg (by omega), if_pos h]
 repeat' split
 all_goals omega
section
variable {w : World}
theorem zjI (r : Int) (hT : CutTab w) : Calls Tryz.prog 149 #[.int .i64 r] w fun e w' => e = .returned (.int .i64 ((kindI r : Nat) : Int)) ∧ Kp w w' n_ := by
 refine zaa (args := [.int .i64 r]) Tryz.func149 rfl NL ?_; refine GW ?_
 unfold kindI
 by_cases h0 : r < 0
 ·refine GO ?_
  exact ⟨by rw [if_pos h0]; rfl, Kp.refl _ _⟩
 rw [if_neg h0]
 obtain ⟨n, rfl⟩ : ∃ n : Nat, r = n := ⟨r.toNat, by omega⟩
 rw [Int.toNat_natCast]
 by_cases h1 : 1114111 < n
 ·refine GO ?_
  exact ⟨zcb (by unfold kindN; rw [if_pos h1]; rfl), Kp.refl _ _⟩
 by_cases h2 : n < 192
 ·have e1 := or32 ⟨n, h2⟩
  have e2 := zra ⟨n, h2⟩
  have e3 := zmN n h2
  simp only at e1 e2
  generalize (n ||| 32) = m at *
  by_cases h3 : 48 ≤ n
  ·by_cases h4 : n ≤ 57
   ·refine GO ?_
    exact ⟨zcb (by rw [e3, if_pos (by omega)]; rfl), Kp.refl _ _⟩
   ·refine GO ?_
    rw [e1]
    by_cases h5 : 97 ≤ m
    ·by_cases h6 : m ≤ 122
     ·refine GO ?_
      exact ⟨zcb (by rw [e3, if_pos (.inr (e2.1 ⟨h5, h6⟩))]; rfl), Kp.refl _ _⟩
     ·refine GO ?_
      exact ⟨zcb (by rw [e3, if_neg (by rintro (h | h); omega; exact h6 (e2.2 h).2)]; rfl), Kp.refl _ _⟩
    ·refine GO ?_
     exact ⟨zcb (by rw [e3, if_neg (by rintro (h | h); omega; exact h5 (e2.2 h).1)]; rfl), Kp.refl _ _⟩
  ·refine GO ?_
   rw [e1]
   by_cases h5 : 97 ≤ m
   ·by_cases h6 : m ≤ 122
    ·refine GO ?_
     exact ⟨zcb (by rw [e3, if_pos (.inr (e2.1 ⟨h5, h6⟩))]; rfl), Kp.refl _ _⟩
    ·refine GO ?_
     exact ⟨zcb (by rw [e3, if_neg (by rintro (h | h); omega; exact h6 (e2.2 h).2)]; rfl), Kp.refl _ _⟩
   ·refine GO ?_
    exact ⟨zcb (by rw [e3, if_neg (by rintro (h | h); omega; exact h5 (e2.2 h).1)]; rfl), Kp.refl _ _⟩
 ·obtain ⟨b, o, c, hg, ht⟩ := hT
  refine GO ?_
  refine CallS.of (Tryz.call214 _ _) (zrf b o c ht (n : Int)) ?_
  rintro e w1 ⟨k, rfl, hp, k1⟩
  refine RT ?_
  have hg1 := (k1.cell (p := ⟨0, 0, none⟩) (zcE hg) id).trans hg
  by_cases hf : k < 19 ∧ cmpC k (n : Int) = 0
  ·have hz := zlh k n hf.2 hf.1
   have hk := zkQ k hf.1 n (by omega) (by omega) hz
   have hc : w1.cell? ⟨b, o + k * 3 + 2, none⟩ = some (.int .i64 (cutSp k).2.2) := (zaG (ht k hf.1) k1) 2 _ rfl
   rw [decide_eq_true hf]
   refine GO ?_
   exact ⟨zcb hk.symm, k1⟩
  ·have hk := zoH n (by omega) (by omega) fun m hm => zof k n hp hf m hm
   rw [decide_eq_false hf]
   refine GO ?_
   exact ⟨zcb (by rw [hk]; rfl), k1⟩
end
section
end
section
end
theorem _root_.Go.Pw.Kp.ofGrown {w w' : World} {row : Option Nat} (h : w.grownBy w' row) : Kp w w' (fun k => row = some k) :=
 ⟨h.os, h.tape, h.output, h.size, fun k hk hn => h.block k hk fun e => hn e.symm⟩
abbrev Wd := List UInt8 × Nat × Nat
def wordCells (x : Wd) : List Value := [.string (str x.1), .int .i64 (x.2.1 : Nat), .int .i64 (x.2.2 : Nat)]
def Wds (w : World) (B : Nat) (v : Value) (l : List Wd) : Prop := w.ownsRow B 116 3 v l.length (l.flatMap wordCells)
theorem wordInfo : (Tryz.prog.info? 116).map (fun i => (i.zero, i.size, i.bytes)) = some (some (.agg #[.string ⟨#[]⟩, .int .i64 0, .int .i64 0]), 3, 32) := by kernel_rfl
theorem zkM (s : ByteArray) (a b : Int) (w : World) : (Instr.build 116 [(0, .string s), (1, .int .i64 a), (2, .int .i64 b)].toArray).run Tryz.prog w = .ok (.agg #[.string s, .int .i64 a, .int .i64 b]) w := by
 simp [Instr.build, Instr.fill, go_sem, Tryz.runUnderlying116]
theorem zhq (s : ByteArray) (a b : Int) (w : World) : (Instr.buildSlice 113 1 [(0, .agg #[.string s, .int .i64 a, .int .i64 b])].toArray).run Tryz.prog w = .ok (.slice (some ⟨w.heap.size, 0, none⟩) 1 1) (w.alloc (.cells #[.string s, .int .i64 a, .int .i64 b] 116)) := by
 simp [Instr.buildSlice, go_sem, Tryz.runUnderlying113]
theorem zoo {w : World} {K : Value → World → Prop} {B : Nat} {v : Value} {l : List Wd} {cs : Array Bool} (h : Wds w B v l) (hB : B ≤ w.heap.size) (x : Wd) (hl : l.length ≤ 1000000000)
  (k : ∀ v' w', Wds w' B v' (l ++ [x]) → (w.alloc (.cells (wordCells x).toArray 116)).grownBy w' v.ownBlock → K v' w') :
  RunN Tryz.prog (builtin .append #[113, 113] 113 cs [v, .slice (some ⟨w.heap.size, 0, none⟩) 1 1].toArray) (w.alloc (.cells (wordCells x).toArray 116)) K := by
 refine RunN.app Tryz.underlying113 wordInfo rfl (by decide) (zac h ((Kp.refl _ _).alloc _)) (Nat.le_trans hB ((Kp.refl w n_).alloc _).size) ⟨w.heap.size, 0, none⟩ 1 1 (wordCells x) rfl (zdV _ _ _) (by simp [wordCells, Value.oneCell']) (by omega) (by omega) fun v' w' h2 h3 => k v' w' ?_ h3
 unfold Wds
 rw [List.length_append, List.flatMap_append]
 simpa using h2
structure WSt (w0 w : World) (bs bo bf : Nat) (s : ByteArray) (v : Value) (l : List Wd) (fr : Int) : Prop where
 k : Kp w0 w n_
 hbs : w0.heap.size ≤ bs
 hbo : w0.heap.size ≤ bo
 hbf : w0.heap.size ≤ bf
 cs : Var1 w bs 9 (.string s)
 co : Var1 w bo 113 v
 cf : Var1 w bf 3 (.int .i64 fr)
 row : Wds w w0.heap.size v l
section
variable {w0 w : World} {bs bo bf : Nat} {s : ByteArray} {v : Value} {l : List Wd} {fr : Int}
theorem WSt.setFrom (h : WSt w0 w bs bo bf s v l fr) (x : Int) : WSt w0 (w.setCell ⟨bf, 0, none⟩ (.int .i64 x)) bs bo bf s v l x :=
 ⟨h.k.setCell (p := ⟨bf, 0, none⟩) (.inr h.hbf) _, h.hbs, h.hbo, h.hbf, h.cs.set_ne (h.cs.ne h.cf (by decide)), h.co.set_ne (h.co.ne h.cf (by decide)), h.cf.set _,
  zaj h.row ((Kp.refl w (one_ bf)).setCell (p := ⟨bf, 0, none⟩) (.inl rfl) _) fun b hb e => h.cf.ne_own h.row (by decide) (by rw [hb]; exact congrArg some e)⟩
theorem WSt.iter {bi : Nat} {t : ByteArray} {p : Nat} {o : Obj} (h : WSt w0 w bs bo bf s v l fr) (hi : w.heap[bi]? = some (.stringIter t p)) (hb : w0.heap.size ≤ bi) : WSt w0 (setO w bi o) bs bo bf s v l fr := by
 have k := zbf (w := w) (b := bi) o
 have ne : ∀ {b : Nat} {T : TypeId} {u : Value}, Var1 w b T u → ¬ one_ bi b := fun hv e => by
  have e : _ = bi := e
  unfold Var1 at hv
  rw [e, hi] at hv; cases hv
 refine ⟨h.k.trans k fun i hi' e => ?_, h.hbs, h.hbo, h.hbf, h.cs.keep k (ne h.cs), h.co.keep k (ne h.co), h.cf.keep k (ne h.cf), zaj h.row k fun b hb e => ?_⟩
 ·have e : i = bi := e
  omega
 ·have e : b = bi := e
  rcases h.row.2 with ⟨hn, _⟩ | ⟨g, cap, cur, hn, _, hg, _⟩
  ·rw [hn] at hb; cases hb
  ·rw [hn] at hb
   injection hb with hb
   have hb : g = b := hb
   rw [hb, e, hi] at hg; cases hg
theorem WSt.keep {w' : World} (h : WSt w0 w bs bo bf s v l fr) (k : Kp w w' n_) : WSt w0 w' bs bo bf s v l fr :=
 ⟨h.k.trans0 k, h.hbs, h.hbo, h.hbf, h.cs.keep k id, h.co.keep k id, h.cf.keep k id, zac h.row k⟩
def IterKept (w w' : World) : Prop := ∀ (bi : Nat) (t : ByteArray) (p : Nat), w.heap[bi]? = some (.stringIter t p) → w'.heap[bi]? = some (.stringIter t p)
theorem IterKept.trans {a b c : World} (h : IterKept a b) (k : IterKept b c) : IterKept a c := fun bi t p hi => k bi t p (h bi t p hi)
theorem IterKept.set {w : World} {b : Nat} {T : TypeId} {v : Value} (h : Var1 w b T v) (u : Value) : IterKept w (w.setCell ⟨b, 0, none⟩ u) := fun bi t p hi => by
 rw [RowKit.Below.heap_setCell _ _ _ _ (fun e => by have e : bi = b := e; subst e; unfold Var1 at h; rw [hi] at h; cases h)]
 exact hi
theorem IterKept.keep {w w' : World} (k : Kp w w' n_) : IterKept w w' := fun bi t p hi => (k.block bi (zbn hi) id).trans hi
theorem zco (h : WSt w0 w bs bo bf s v l fr) (hT : FoldTab w0) (hs : s.size ≤ 100000000) (m : Nat) (hto : m ≤ s.size) (hf : fr ≤ m) (h1 : -1 ≤ fr) (hl : l.length ≤ 100000000) :
  Calls Tryz.prog 146 #[.int .i64 (m : Int), .pointer (some ⟨bf, 0, none⟩), .pointer (some ⟨bo, 0, none⟩), .pointer (some ⟨bs, 0, none⟩)] w fun e w' =>
   e = .returned (.tuple #[]) ∧ (∃ v', WSt w0 w' bs bo bf s v' (if fr < 0 then l else l ++ [(foldL (cutL (L s) (fr.toNat, m)), fr.toNat, m)]) (-1)) ∧ IterKept w w' := by
 have cf := h.cf.cell
 refine zaa (args := [.int .i64 (m : Int), .pointer (some ⟨bf, 0, none⟩), .pointer (some ⟨bo, 0, none⟩), .pointer (some ⟨bs, 0, none⟩)]) Tryz.func146 rfl NL ?_; refine GW ?_
 refine GO ?_
 by_cases h0 : fr < 0
 ·refine GO ?_
  refine Store.one (by rfl) ⟨rfl, by simp, by simp⟩ cf h.cf.frozen ?_
  refine GW ?_
  exact ⟨rfl, ⟨v, by rw [if_pos h0]; exact h.setFrom (-1)⟩, IterKept.set h.cf _⟩
 ·refine GO ?_
  obtain ⟨n, rfl⟩ : ∃ n : Nat, fr = n := ⟨fr.toNat, by omega⟩
  obtain ⟨va, vc, rfl⟩ := zab h.row
  refine Draw.heldEnd (fun u => Kp w u (fun k => (Value.slice va l.length vc).ownBlock = some k)) (fun _ => true) (by simp) (by decide +kernel) (by decide +kernel) (Kp.refl _ _).drew ?_
  have f1 : ∀ u, Kp w u (fun k => (Value.slice va l.length vc).ownBlock = some k) → u.cell? ⟨bf, 0, none⟩ = some (.int .i64 (n : Int)) := fun u k => (h.cf.keep k (h.cf.ne_own h.row (by decide))).cell
  have f2 : ∀ u, Kp w u (fun k => (Value.slice va l.length vc).ownBlock = some k) → u.cell? ⟨bo, 0, none⟩ = some (.slice va l.length vc) := fun u k => (h.co.keep k (h.co.ne_own h.row (by decide))).cell
  have f3 : ∀ u, Kp w u (fun k => (Value.slice va l.length vc).ownBlock = some k) → u.cell? ⟨bs, 0, none⟩ = some (.string s) := fun u k => (h.cs.keep k (h.cs.ne_own h.row (by decide))).cell
  refine GW ?_
  refine Held.one (by rfl) (fun u ku => f2 u ku) ?_
  refine GW ?_
  refine Held.one (by rfl) (fun u ku => f3 u ku) ?_
  refine GW ?_
  refine Held.one (by rfl) (fun u ku => f1 u ku) ?_
  refine GO ?_
  have hx : (s.extract n m).size ≤ 100000000 := by simp; omega
  have hLx : L (s.extract n m) = cutL (L s) (n, m) := L_extract s n m
  refine CallS.of (Tryz.call147 _ _) (zml (s.extract n m) (hT.keep h.k.drew) hx) ?_
  rintro e w1 ⟨rfl, k1⟩
  rw [hLx]
  refine RT ?_
  have K1 : Kp w w1 (fun k => (Value.slice va l.length vc).ownBlock = some k) := (Kp.refl w _).drew.trans' (Kp.of_none k1)
  refine ⟨K1, ?_⟩
  refine GW ?_
  refine Held.one (by rfl) (fun u ku => f1 u ku) ?_
  refine GW ?_
  refine RunV.of (zkM _ _ _ _) ?_
  refine GW ?_
  refine RunV.of (zhq _ _ _ _) ?_
  refine ⟨K1.alloc _, ?_⟩
  refine GW ?_
  have k0 : Kp w w1 n_ := (Kp.refl w _).drew.trans0 k1
  refine zoo (zac h.row k0) (Nat.le_trans h.k.size k0.size) (foldL (cutL (L s) (n, m)), n, m) (by omega) fun v' w2 h2 hg2 => ?_
  obtain ⟨a2, c2, rfl⟩ : ∃ a c, v' = .slice a (l.length + 1) c := by
   obtain ⟨a, c, e⟩ := zab h2
   exact ⟨a, c, by rw [e, List.length_append]; rfl⟩
  have K2 : Kp w w2 (fun k => (Value.slice va l.length vc).ownBlock = some k) := (K1.alloc _).trans' (Kp.ofGrown hg2)
  have k02 : Kp w0 w2 n_ := ((h.k.trans0 k0).alloc _).own (zac (zac h.row k0) ((Kp.refl _ _).alloc _)) (Nat.le_refl _) hg2
  refine ⟨K2, ?_⟩
  have s2 := h.cs.keep K2 (h.cs.ne_own h.row (by decide))
  have o2 := h.co.keep K2 (h.co.ne_own h.row (by decide))
  have q2 := h.cf.keep K2 (h.cf.ne_own h.row (by decide))
  refine GW ?_
  refine Store.one (by rfl) ⟨rfl, by simp, by simp⟩ o2.cell o2.frozen ?_
  have st : WSt w0 (w2.setCell ⟨bo, 0, none⟩ (.slice a2 (l.length + 1) c2)) bs bo bf s (.slice a2 (l.length + 1) c2) (l ++ [(foldL (cutL (L s) (n, m)), n, m)]) n :=
   ⟨k02.setCell (p := ⟨bo, 0, none⟩) (.inr h.hbo) _, h.hbs, h.hbo, h.hbf, s2.set_ne (s2.ne o2 (by decide)), o2.set _, q2.set_ne (q2.ne o2 (by decide)),
    zaj h2 ((Kp.refl w2 (one_ bo)).setCell (p := ⟨bo, 0, none⟩) (.inl rfl) _) fun b hb e => o2.ne_own h2 (by decide) (by rw [hb]; exact congrArg some e)⟩
  have it2 : IterKept w w2 := fun bi t p hi => (K2.block bi (zbn hi) (fun e => by
   have e : (Value.slice va l.length vc).ownBlock = some bi := e
   rcases h.row.2 with ⟨hn, _⟩ | ⟨g, cap, cur, hn, _, hg, _⟩
   ·rw [hn] at e; cases e
   ·rw [hn] at e
    injection e with e
    have e : g = bi := e
    rw [e, hi] at hg
    cases hg)).trans hi
  have it3 : IterKept w2 (w2.setCell ⟨bo, 0, none⟩ (.slice a2 (l.length + 1) c2)) := IterKept.set o2 _
  generalize w2.setCell ⟨bo, 0, none⟩ (.slice a2 (l.length + 1) c2) = w3 at *
  refine GW ?_
  refine Store.one (by rfl) ⟨rfl, by simp, by simp⟩ st.cf.cell st.cf.frozen ?_
  refine GW ?_
  refine ⟨rfl, ⟨.slice a2 (l.length + 1) c2, ?_⟩, (it2.trans it3).trans (IterKept.set st.cf _)⟩
  rw [if_neg h0, Int.toNat_natCast]
  exact st.setFrom (-1)
end
section
variable {w : World}
theorem zci (L0 : List UInt8) (ps : List (Nat × Nat)) (f : Option Nat) (m : Nat) :
  (if frI f < 0 then ps.map (mk L0) else ps.map (mk L0) ++ [(foldL (cutL L0 ((frI f).toNat, m)), (frI f).toNat, m)]) = (ps ++ close f m).map (mk L0) := by
 cases f with
 | none => rw [if_pos (by simp [frI])]; simp [close]
 | some a => rw [if_neg (by simp [frI])]; simp [close, frI, mk]
theorem zhV (s : ByteArray) (hC : CutTab w) (hF : FoldTab w) (hs : s.size ≤ 10000000) : Calls Tryz.prog 86 #[.string s] w fun e w' => ∃ v, e = .returned v ∧ Wds w' w.heap.size v (wordsL (L s)) ∧ Kp w w' n_ := by
 have hl := L_len s
 refine zaa (args := [.string s]) Tryz.func86 rfl NL ?_; refine GW ?_
 have v1 := Var1.alloc_new w 9 (.string s)
 have k1 : Kp w (w.alloc (.cells #[.string s] 9)) n_ := (Kp.refl _ _).alloc _
 have z1 : (w.alloc (.cells #[.string s] 9)).heap.size = w.heap.size + 1 := by simp
 generalize w.alloc (.cells #[.string s] 9) = w1 at *
 have v2 := Var1.alloc_new w1 113 (.slice none 0 0)
 have k2 : Kp w1 (w1.alloc (.cells #[.slice none 0 0] 113)) n_ := (Kp.refl _ _).alloc _
 have z2 : (w1.alloc (.cells #[.slice none 0 0] 113)).heap.size = w.heap.size + 2 := by simp [z1]
 generalize w1.alloc (.cells #[.slice none 0 0] 113) = w2 at *
 have v3 := Var1.alloc_new w2 3 (.int .i64 0)
 have k3 : Kp w2 (w2.alloc (.cells #[.int .i64 0] 3)) n_ := (Kp.refl _ _).alloc _
 have z3 : (w2.alloc (.cells #[.int .i64 0] 3)).heap.size = w.heap.size + 3 := by simp [z2]
 generalize w2.alloc (.cells #[.int .i64 0] 3) = w3 at *
 rw [z1, z2] at *
 have st0 : WSt w w3 w.heap.size (w.heap.size + 1) (w.heap.size + 2) s (.slice none 0 0) [] 0 :=
  ⟨(k1.trans0 k2).trans0 k3, Nat.le_refl _, by omega, by omega, (v1.keep k2 id).keep k3 id, v2.keep k3 id, v3, World.ownsRow_nil _ _ _ _⟩
 refine Store.one (by rfl) ⟨rfl, by simp, by simp⟩ v3.cell v3.frozen ?_
 have st1 := st0.setFrom (-1)
 have z4 : (w3.setCell ⟨w.heap.size + 2, 0, none⟩ (.int .i64 (-1))).heap.size = w.heap.size + 3 := by simp [World.setCell, z3]
 generalize w3.setCell ⟨w.heap.size + 2, 0, none⟩ (.int .i64 (-1)) = w4 at *
 have c1 := st1.cs.cell
 refine GO ?_
 refine RunV.rangeS Tryz.underlying9 ?_
 have hi5 := heap_alloc_new w4 (.stringIter s 0)
 have st5 := st1.keep ((Kp.refl w4 n_).alloc (.stringIter s 0))
 rw [z4] at *
 generalize w4.alloc (.stringIter s 0) = w5 at *
 refine GW ?_
 refine Loop.intro (ι := Nat × Value × List (Nat × Nat) × Option Nat) (fun i => [(1, .pointer (some ⟨w.heap.size, 0, none⟩)), (3, .pointer (some ⟨w.heap.size + 1, 0, none⟩)), (4, .pointer (some ⟨w.heap.size + 2, 0, none⟩)),
   (5, .func (.func 146) #[] #[.pointer (some ⟨w.heap.size + 2, 0, none⟩), .pointer (some ⟨w.heap.size + 1, 0, none⟩), .pointer (some ⟨w.heap.size, 0, none⟩)]), (12, .pointer (some ⟨w.heap.size + 3, 0, none⟩))])
  (fun i wr => i.1 ≤ s.size ∧ WSt w wr w.heap.size (w.heap.size + 1) (w.heap.size + 2) s i.2.1 (i.2.2.1.map (mk (L s))) (frI i.2.2.2) ∧ wr.heap[w.heap.size + 3]? = some (.stringIter s i.1) ∧
   wd (us (L s)) 0 none = i.2.2.1 ++ wd (us ((L s).drop i.1)) i.1 i.2.2.2 ∧ i.2.2.1.length ≤ 2 * i.1 ∧ ∀ a, i.2.2.2 = some a → a ≤ i.1) (fun i => s.size - i.1) (0, .slice none 0 0, [], none) ⟨rfl, rfl, rfl, by simp [upd], rfl, trivial⟩
  ⟨Nat.zero_le _, st5, hi5, rfl, Nat.le_refl _, fun a h => by cases h⟩ ?_
 rintro ⟨n, v, ps, f⟩ g wr ⟨hn, st, hi, he, hpl, hfa⟩
 dsimp only at hn st hi he hpl hfa ⊢
 refine GW ?_
 have hfr1 : -1 ≤ frI f := by
  cases f with
  | none => exact Int.le_refl _
  | some a => exact Int.le_trans (by decide) (Int.natCast_nonneg a)
 have hfrn : frI f ≤ n := by
  cases f with
  | none => exact Int.le_trans (by decide) (Int.natCast_nonneg n)
  | some a => exact Int.ofNat_le.2 (hfa a rfl)
 by_cases hlt : n < s.size
 ·refine RunV.nextS hi hlt ?_
  have hne : (L s).drop n ≠ [] := by rw [← L_from]; exact L_ne (by simp; omega)
  have hw := decodeL_width ((L s).drop n)
  have hle := decodeL_le _ hne
  have hsc := znM _ hne
  have hru := decodeL_rune ((L s).drop n)
  rw [List.length_drop] at hle
  rw [zcc _ hne, List.drop_drop] at he
  have hwh : (decodeL ((L s).drop n)).1 ≠ 65533 → (decodeL ((L s).drop n)).2 = (enc (decodeL ((L s).drop n)).1).length := fun hc => by
   rcases dec_whole _ hne with h | h
   ·rw [h] at hc; exact (hc rfl).elim
   ·exact h.2.2.1
  have hel := zdk (decodeL ((L s).drop n)).1
  have st2 := st.iter (o := .stringIter s (n + (decodeL ((L s).drop n)).2)) hi (by omega)
  have hi2 : (setO wr (w.heap.size + 3) (.stringIter s (n + (decodeL ((L s).drop n)).2))).heap[w.heap.size + 3]? = some (.stringIter s (n + (decodeL ((L s).drop n)).2)) := zcw _ (zbn hi)
  generalize setO wr (w.heap.size + 3) (.stringIter s (n + (decodeL ((L s).drop n)).2)) = w2 at *
  rw [zgK] at he
  generalize (decodeL ((L s).drop n)).1 = c at *
  generalize (decodeL ((L s).drop n)).2 = k at *
  refine GO ?_
  refine CallS.of (Tryz.call148 _ _) (zlr (c : Int) w2) ?_
  rintro e w3 ⟨rfl, rfl⟩
  rw [zkS c hsc]
  refine RT ?_
  refine GO ?_
  rw [zda _ (by omega)]
  refine CallS.of (Tryz.call149 _ _) (zjI (c : Int) (hC.keep st2.k)) ?_
  rintro e w3 ⟨rfl, k3⟩
  have hki : kindI (c : Int) = kindN c := by unfold kindI; rw [if_neg (by omega)]; rfl
  rw [hki]
  have hk2 := zkf c
  have hkb : c = 65533 → kindN c = 0 := fun h => by rw [h]; exact zjg
  refine RT ?_
  have st3 := st2.keep k3
  have hi3 := IterKept.keep k3 _ _ _ hi2
  have hcl : (close f n).length ≤ 1 := by cases f <;> simp [close]
  have hlen : (ps.map (mk (L s))).length ≤ 100000000 := by rw [List.length_map]; omega
  generalize hq : kindN c = q at *
  have zero : ∀ (w6 : World) (v' : Value), q = 0 → WSt w w6 w.heap.size (w.heap.size + 1) (w.heap.size + 2) s v' ((ps ++ close f n).map (mk (L s))) (-1) → w6.heap[w.heap.size + 3]? = some (.stringIter s (n + k)) →
    n + k ≤ s.size ∧ WSt w w6 w.heap.size (w.heap.size + 1) (w.heap.size + 2) s v' ((ps ++ close f n).map (mk (L s))) (frI none) ∧ w6.heap[w.heap.size + 3]? = some (.stringIter s (n + k)) ∧
    wd (us (L s)) 0 none = (ps ++ close f n) ++ wd (us ((L s).drop (n + k))) (n + k) none ∧ (ps ++ close f n).length ≤ 2 * (n + k) ∧ ∀ a, (none : Option Nat) = some a → a ≤ n + k := by
   intro w6 v' h0 h6 hi6
   refine ⟨by omega, h6, hi6, by rw [he, h0, wd_0, List.append_assoc], by rw [List.length_append]; omega, fun a h => by cases h⟩
  by_cases hc : c = 65533
  ·have h0 : q = 0 := hkb hc
   refine GO ?_
   refine CallS.of (Tryz.call146 _ _) (zco st3 hF (by omega) n hn hfrn hfr1 hlen) ?_
   rintro e w6 ⟨rfl, ⟨v', st6⟩, hk6⟩
   rw [zci] at st6
   refine RT ?_
   refine GO ?_
   exact ⟨(n + k, v', ps ++ close f n, none), ⟨rfl, rfl, rfl, rfl, rfl, trivial⟩, zero w6 v' h0 st6 (hk6 _ _ _ hi3), by dsimp only; omega⟩
  have hkk := hwh hc
  have h012 : q = 0 ∨ q = 1 ∨ q = 2 := by omega
  rcases h012 with h0 | h1 | h2
  ·refine GO ?_
   refine CallS.of (Tryz.call146 _ _) (zco st3 hF (by omega) n hn hfrn hfr1 hlen) ?_
   rintro e w6 ⟨rfl, ⟨v', st6⟩, hk6⟩
   rw [zci] at st6
   refine RT ?_
   refine GO ?_
   exact ⟨(n + k, v', ps ++ close f n, none), ⟨rfl, rfl, rfl, rfl, rfl, trivial⟩, zero w6 v' h0 st6 (hk6 _ _ _ hi3), by dsimp only; omega⟩
  ·have c3 := st3.cf.cell
   subst h1
   cases f with
   | none =>
    have c3 : w3.cell? ⟨w.heap.size + 2, 0, none⟩ = some (.int .i64 (-1)) := c3
    refine GO ?_
    refine Store.one (by rfl) ⟨rfl, by simp, by simp⟩ c3 st3.cf.frozen ?_
    have st6 := st3.setFrom (n : Int)
    have hi6 := IterKept.set st3.cf (.int .i64 (n : Int)) _ _ _ hi3
    generalize w3.setCell ⟨w.heap.size + 2, 0, none⟩ (.int .i64 (n : Int)) = w6 at *
    refine GO ?_
    exact ⟨(n + k, v, ps, some n), ⟨rfl, rfl, rfl, rfl, rfl, trivial⟩, ⟨by dsimp only; omega, st6, hi6, by rw [he, wd_1n], by dsimp only; omega, fun a h => by injection h with h; dsimp only; omega⟩, by dsimp only; omega⟩
   | some a =>
    have ha := hfa a rfl
    have c3 : w3.cell? ⟨w.heap.size + 2, 0, none⟩ = some (.int .i64 (a : Int)) := c3
    rw [wd_1s] at he
    by_cases h40 : 40 < n + k - a
    ·rw [if_pos h40] at he
     refine GO ?_
     refine CallS.of (Tryz.call146 _ _) (zco st3 hF (by omega) n hn hfrn hfr1 hlen) ?_
     rintro e w6 ⟨rfl, ⟨v', st6⟩, hk6⟩
     rw [zci] at st6
     refine RT ?_
     have c6 := st6.cf.cell
     refine GO ?_
     refine Store.one (by rfl) ⟨rfl, by simp, by simp⟩ c6 st6.cf.frozen ?_
     have st7 := st6.setFrom (n : Int)
     have hi7 := IterKept.set st6.cf (.int .i64 (n : Int)) _ _ _ (hk6 _ _ _ hi3)
     generalize w6.setCell ⟨w.heap.size + 2, 0, none⟩ (.int .i64 (n : Int)) = w7 at *
     refine GO ?_
     exact ⟨(n + k, v', ps ++ close (some a) n, some n), ⟨rfl, rfl, rfl, rfl, rfl, trivial⟩, ⟨by dsimp only; omega, st7, hi7, by rw [he, List.append_assoc]; rfl, by rw [List.length_append]; dsimp only; omega, fun x h => by injection h with h; dsimp only; omega⟩, by dsimp only; omega⟩
    ·rw [if_neg h40] at he
     refine GO ?_
     exact ⟨(n + k, v, ps, some a), ⟨rfl, rfl, rfl, rfl, rfl, trivial⟩, ⟨by dsimp only; omega, st3, hi3, he, by dsimp only; omega, fun x h => by injection h with h; dsimp only; omega⟩, by dsimp only; omega⟩
  ·subst h2
   refine GO ?_
   refine CallS.of (Tryz.call146 _ _) (zco st3 hF (by omega) n hn hfrn hfr1 hlen) ?_
   rintro e w6 ⟨rfl, ⟨v', st6⟩, hk6⟩
   rw [zci] at st6
   refine RT ?_
   have c6 := st6.cf.cell
   refine GO ?_
   refine Store.one (by rfl) ⟨rfl, by simp, by simp⟩ c6 st6.cf.frozen ?_
   have st7 := st6.setFrom (frI (some n))
   have hi7 := IterKept.set st6.cf (.int .i64 (n : Int)) _ _ _ (hk6 _ _ _ hi3)
   have st7 : WSt w (w6.setCell ⟨w.heap.size + 2, 0, none⟩ (.int .i64 (n : Int))) w.heap.size (w.heap.size + 1) (w.heap.size + 2) s v' ((ps ++ close f n).map (mk (L s))) (frI (some n)) := st7
   generalize w6.setCell ⟨w.heap.size + 2, 0, none⟩ (.int .i64 (n : Int)) = w7 at *
   refine GO ?_
   rw [show ((n : Int) + ((enc c).length : Int)) = ((n + k : Nat) : Int) by omega]
   refine CallS.of (Tryz.call146 _ _) (zco st7 hF (by omega) (n + k) (by omega) (Int.ofNat_le.2 (Nat.le_add_right n k)) (Int.le_trans (by decide) (Int.natCast_nonneg n)) (by rw [List.length_map, List.length_append]; omega)) ?_
   rintro e w8 ⟨rfl, ⟨v8, st8⟩, hk8⟩
   rw [zci] at st8
   refine RT ?_
   refine GO ?_
   exact ⟨(n + k, v8, (ps ++ close f n) ++ close (some n) (n + k), none), ⟨rfl, rfl, rfl, rfl, rfl, trivial⟩, ⟨by dsimp only; omega, st8, hk8 _ _ _ hi7, by rw [he, wd_2]; simp [close], by rw [List.length_append, List.length_append]; show ps.length + (close f n).length + 1 ≤ _; dsimp only; omega, fun x h => by cases h⟩, by dsimp only; omega⟩
 ·refine RunV.nextE hi hlt ?_
  have hn0 : (L s).drop n = [] := List.drop_eq_nil_of_le (by omega)
  have hnn : n = s.size := by omega
  have c1 := st.cs.cell
  have c3 := st.co.cell
  refine GO ?_
  rw [hnn] at hfrn
  refine CallS.of (Tryz.call146 _ _) (zco st hF (by omega) s.size (Nat.le_refl _) hfrn hfr1 (by rw [List.length_map]; omega)) ?_
  rintro e w6 ⟨rfl, ⟨v', st6⟩, _⟩
  rw [zci] at st6
  obtain ⟨a6, c6, rfl⟩ := zab st6.row
  refine RT ?_
  have o6 := st6.co.cell
  refine GO ?_
  rw [hn0, zfv, hnn] at he
  refine ⟨_, rfl, ?_, st6.k⟩
  rw [zik, he]
  exact st6.row
end
def Rd (w : World) (v : Value) (n : Nat) (xs : List Value) : Prop := ∃ a cap, v = .slice a n cap ∧ (0 < n → ∃ g, a = some ⟨g, 0, none⟩ ∧ g < w.heap.size ∧ At w g 0 xs)
theorem zjh {w : World} {B s n : Nat} {e : TypeId} {v : Value} {xs : List Value} (h : w.ownsRow B e s v n xs) : Rd w v n xs := by
 obtain ⟨a, cap, rfl⟩ := zab h
 exact ⟨a, cap, rfl, fun h0 => let ⟨g, h1, _, h3, h4⟩ := zfd h h0; ⟨g, h1, h3, h4⟩⟩
theorem Rd.keep {w w' : World} {v : Value} {n : Nat} {xs : List Value} (h : Rd w v n xs) (k : Kp w w' n_) : Rd w' v n xs := by
 obtain ⟨a, cap, rfl, h⟩ := h
 exact ⟨a, cap, rfl, fun h0 => let ⟨g, h1, h3, h4⟩ := h h0; ⟨g, h1, Nat.lt_of_lt_of_le h3 k.size, zaG h4 k⟩⟩
theorem zgq {α : Type} (f : α → List Value) (n : Nat) (hf : ∀ x, (f x).length = n) : ∀ (l : List α) (i j : Nat) (x : α), l[i]? = some x → j < n → (l.flatMap f)[i * n + j]? = (f x)[j]?
 | [], i, j, x, h, _ => by simp at h
 | y :: r, 0, j, x, h, hj => by
  simp at h; subst h
  rw [List.flatMap_cons, List.getElem?_append_left (by rw [hf]; omega)]; simp
 | y :: r, i + 1, j, x, h, hj => by
  rw [List.flatMap_cons, List.getElem?_append_right (by rw [hf, Nat.add_mul]; omega), hf, show (i + 1) * n + j - n = i * n + j by rw [Nat.add_mul]; omega]
  exact zgq f n hf r i j x (by simpa using h) hj
theorem zec {w : World} {g : Nat} {l : List Wd} (h : At w g 0 (l.flatMap wordCells)) {i : Nat} (hi : i < l.length) : At w g (0 + i * 3) (wordCells l[i]) := fun j v hj => by
 have h3 : j < 3 := (List.getElem?_eq_some_iff.1 hj).1
 rw [Nat.add_assoc]
 exact h (i * 3 + j) v ((zgq wordCells 3 (fun _ => rfl) l i j _ (List.getElem?_eq_getElem hi) h3).trans hj)
def sv (s : List UInt8) : Value := .string (str s)
def Txs (w : World) (B : Nat) (v : Value) (l : List (List UInt8)) : Prop := w.ownsRow B 9 1 v l.length (l.map sv)
theorem stringInfo : (Tryz.prog.info? 9).map (fun i => (i.zero, i.size, i.bytes)) = some (some (.string ⟨#[]⟩), 1, 16) := by kernel_rfl
theorem zbM (s : ByteArray) (w : World) : (Instr.buildSlice 48 1 [(0, .string s)].toArray).run Tryz.prog w = .ok (.slice (some ⟨w.heap.size, 0, none⟩) 1 1) (w.alloc (.cells #[.string s] 9)) := by
 simp [Instr.buildSlice, go_sem, Tryz.runUnderlying48]
theorem zgw {w : World} {K : Value → World → Prop} {B : Nat} {v : Value} {l : List (List UInt8)} {cs : Array Bool} (h : Txs w B v l) (hB : B ≤ w.heap.size) (x : List UInt8) (hl : l.length ≤ 1000000000)
  (k : ∀ v' w', Txs w' B v' (l ++ [x]) → (w.alloc (.cells #[sv x] 9)).grownBy w' v.ownBlock → K v' w') :
  RunN Tryz.prog (builtin .append #[48, 48] 48 cs [v, .slice (some ⟨w.heap.size, 0, none⟩) 1 1].toArray) (w.alloc (.cells #[sv x] 9)) K := by
 refine RunN.app Tryz.underlying48 stringInfo rfl (by decide) (zac h ((Kp.refl _ _).alloc _)) (Nat.le_trans hB ((Kp.refl w n_).alloc _).size) ⟨w.heap.size, 0, none⟩ 1 1 [sv x] rfl (zdV _ _ _) (by simp [sv, Value.oneCell']) (by omega) (by omega) fun v' w' h2 h3 => k v' w' ?_ h3
 unfold Txs
 rw [List.length_append, List.map_append]
 simpa using h2
theorem zma {w : World} {g : Nat} {l : List (List UInt8)} (h : At w g 0 (l.map sv)) {i : Nat} (hi : i < l.length) : w.cell? ⟨g, 0 + i, none⟩ = some (.string (str l[i])) := h i _ (by rw [List.getElem?_map, List.getElem?_eq_getElem hi]; rfl)
theorem zpk : ∀ (u : List (Nat × Nat)) (p : Nat) (f : Option Nat), (wd u p f).length ≤ 2 * u.length + 1
 | [], p, f => by cases f <;> simp [wd, close]
 | (k, n) :: r, p, f => by
  have h1 := fun q g => zpk r q g
  have hc : (close f p).length ≤ 1 := by cases f <;> simp [close]
  simp only [wd]
  split
  ·have := h1 (p + n) none; simp; omega
  ·split
   ·have := h1 (p + n) none; simp; omega
   ·split
    ·split
     ·rename_i a _; have := h1 (p + n) (some p); simp; omega
     ·rename_i a _; have := h1 (p + n) (some a); simp; omega
    ·have := h1 (p + n) (some p); simp; omega
theorem zph : ∀ (n : Nat) (l : List UInt8), l.length ≤ n → (us l).length ≤ l.length
 | 0, l, h => by
  have : l = [] := List.eq_nil_of_length_eq_zero (by omega)
  subst this; simp [zfv]
 | n + 1, [], _ => by simp [zfv]
 | n + 1, b :: t, h => by
  rw [zcc (b :: t) (by simp)]
  have hw := decodeL_width (b :: t)
  have h1 := zph n ((b :: t).drop (decodeL (b :: t)).2) (by rw [List.length_drop]; omega)
  rw [List.length_drop] at h1
  simp only [List.length_cons] at *
  omega
theorem zcq (l : List UInt8) : (wordsL l).length ≤ 2 * l.length + 1 := by
 unfold wordsL
 rw [List.length_map]
 have := zpk (us l) 0 none
 have := zph _ l (Nat.le_refl _)
 omega
section
end
section
end
section
end
end Go.Proofs.YtennokckmjcefaaGreatDoor
namespace Go.Cs
open Go.Lib
end Go.Cs
namespace Go.Proofs.YtennokckmjcefaaGreatDoor
open Go.RowKit Go.Pw Go.Vc Go.Cs Go.Lib
section
end
def Rns (w : World) (B : Nat) (v : Value) (l : List Nat) : Prop := w.ownsRow B 3 1 v l.length (l.map fun (c : Nat) => Value.int .i64 (c : Int))
theorem Rns.shape {w : World} {B : Nat} {v : Value} {l : List Nat} (h : Rns w B v l) : ∃ a cap, v = .slice a l.length cap := zab h
section
end
theorem Bytes.shape {w : World} {B : Nat} {v : Value} {l : List UInt8} (h : Bytes w B v l) : ∃ a cap, v = .slice a l.length cap := zab h
theorem Bytes.keep {w w' : World} {B : Nat} {v : Value} {l : List UInt8} (h : Bytes w B v l) (k : Kp w w' n_) : Bytes w' B v l := zac h k
theorem Rns.keep {w w' : World} {B : Nat} {v : Value} {l : List Nat} (h : Rns w B v l) (k : Kp w w' n_) : Rns w' B v l := zac h k
section
end
def listL (l : List UInt8) : List (List UInt8) := (wordsL l).map (·.1)
theorem wordFlat (x : Wd) : ∀ v ∈ wordCells x, Flat v := by
 intro v hv
 simp only [wordCells, List.mem_cons, List.not_mem_nil, or_false] at hv
 rcases hv with rfl | rfl | rfl <;> trivial
theorem zdu {w : World} (s : ByteArray) (hC : CutTab w) (hF : FoldTab w) (hs : s.size ≤ 10000000) : Calls Tryz.prog 25 #[.string s] w fun e w' => ∃ v, e = .returned v ∧ Txs w' w.heap.size v (listL (L s)) ∧ Kp w w' n_ := by
 have hLs : (L s).length = s.size := by simp [L]
 have hwl := zcq (L s)
 refine zaa (args := [.string s]) Tryz.func25 rfl NL ?_; refine GW ?_
 refine GO ?_
 refine CallS.of (Tryz.call86 _ _) (zhV s hC hF hs) ?_
 rintro e w1 ⟨v, rfl, hW, k1⟩
 unfold listL
 generalize wordsL (L s) = W at *
 obtain ⟨a, cap, rfl, hr⟩ := zjh hW
 refine RT ?_
 refine GO ?_
 refine Loop.intro (ι := Nat × Option Addr × Nat × List (List UInt8)) (fun i => [(3, .slice i.2.1 i.2.2.2.length i.2.2.1), (7, .slice a W.length cap), (8, .int .i64 (W.length : Nat)), (9, .int .i64 (i.1 : Nat))])
  (fun i wr => Kp w1 wr n_ ∧ i.1 ≤ W.length ∧ i.2.2.2 = (W.take i.1).map (·.1) ∧ Txs wr w1.heap.size (.slice i.2.1 i.2.2.2.length i.2.2.1) i.2.2.2) (fun i => W.length - i.1) (0, none, 0, []) ⟨rfl, rfl, rfl, rfl, trivial⟩
  ⟨Kp.refl _ _, Nat.zero_le _, rfl, ?_⟩ ?_
 ·exact World.ownsRow_nil _ _ _ _
 rintro ⟨i, va, vc, l⟩ gg wr ⟨hK1, hi, hl, hT⟩
 dsimp only at hi hl hT ⊢
 have hll : l.length = i := by rw [hl]; simp; omega
 refine GW ?_
 by_cases hlt : i < W.length
 ·obtain ⟨g1, rfl, b1, h1⟩ := hr (by omega)
  have c1 := zec (zaG h1 hK1) hlt
  refine GO ?_
  refine Load.agg (wordCells W[i]) (by rfl) (by rfl) (by rfl) c1 ?_
  refine GO ?_
  refine Store.fresh (vs := wordCells W[i]) (by rfl) rfl (wordFlat _) ?_
  have c2 : (wr.alloc (.cells (wordCells W[i]).toArray 116)).cell? ⟨wr.heap.size, 0, none⟩ = some (.string (str W[i].1)) := by
   exact zdV wr (wordCells W[i]).toArray 116 0 (.string (str W[i].1)) rfl
  have k2 : Kp wr (wr.alloc (.cells (wordCells W[i]).toArray 116)) n_ := (Kp.refl _ _).alloc _
  generalize wr.alloc (.cells (wordCells W[i]).toArray 116) = w2 at *
  refine GO ?_
  refine RunV.of (zbM _ _) ?_
  refine GW ?_
  have hT2 : Txs w2 w1.heap.size (.slice va l.length vc) l := zac hT k2
  refine zgw hT2 (Nat.le_trans hK1.size k2.size) W[i].1 (by omega) fun v' w3 h3 g3 => ?_
  obtain ⟨a3, c3, rfl⟩ : ∃ a c, v' = .slice a (l ++ [W[i].1]).length c := zab h3
  refine GO ?_
  have K3 : Kp w1 w3 n_ := ((hK1.trans0 k2).alloc _).own (zac hT2 ((Kp.refl _ _).alloc _)) (Nat.le_refl _) g3
  exact ⟨(i + 1, a3, c3, l ++ [W[i].1]), ⟨rfl, rfl, rfl, v_int (by simp), trivial⟩, ⟨K3, by dsimp only; omega, by dsimp only; rw [List.take_succ_eq_append_getElem hlt, List.map_append, hl]; rfl, h3⟩, by dsimp only; omega⟩
 ·refine GO ?_
  have e : i = W.length := by omega
  rw [e, List.take_length] at hl
  refine ⟨_, rfl, ?_, k1.trans0 hK1⟩
  rw [← hl]
  exact zaz hT k1.size
section
variable {w : World}
theorem knd (r : Int) (k : Nat) (h : kindI r = k) (w : World) (hC : CutTab w) : Calls Tryz.prog 149 #[.int .i64 r] w fun e w' => e = .returned (.int .i64 (k : Nat)) ∧ Kp w w' n_ := by
 subst h; exact zjI r hC
theorem zpy (w : World) (xs : List Value) (T : TypeId) (n c : Nat) : Rd (w.alloc (.cells xs.toArray T)) (.slice (some ⟨w.heap.size, 0, none⟩) n c) n xs :=
 ⟨_, _, rfl, fun _ => ⟨w.heap.size, rfl, by simp, zcZ (heap_alloc_new w (.cells xs.toArray T))⟩⟩
end
section
end
section
end
section
end
section
end
end Go.Proofs.YtennokckmjcefaaGreatDoor
