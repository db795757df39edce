/- Helper lemmas that the proved statement rests on; no conditions of their own. -/
import Derived.Laws.StructEq
import Derived.Maps.AppendAt
import Derived.Lib.AppendStr
import Derived.Lib.IndexAny
import Derived.Test.YtmjeacpoobbjjaaGreatDoorGTk0
set_option linter.unusedVariables false
set_option maxRecDepth 100000
namespace Go.Proofs.YtmjeacpoobbjjaaGreatDoor
open Go.RowKit Go.Pw Go.Vc Go.Cs Go.Lib
theorem _root_.Go.Pw.Kp.ofGrown {w w' : World} {row : Option Nat} (h : w.grownBy w' row) : Kp w w' (fun k => row = some k) :=
 ⟨h.os, h.tape, h.output, h.size, fun k hk hn => h.block k hk fun e => hn e.symm⟩
abbrev Wd := List UInt8 × Nat × Nat
section
variable {w0 w : World} {bs bo bf : Nat} {s : ByteArray} {v : Value} {l : List Wd} {fr : Int}
def IterKept (w w' : World) : Prop := ∀ (bi : Nat) (t : ByteArray) (p : Nat), w.heap[bi]? = some (.stringIter t p) → w'.heap[bi]? = some (.stringIter t p)
theorem IterKept.trans {a b c : World} (h : IterKept a b) (k : IterKept b c) : IterKept a c := fun bi t p hi => k bi t p (h bi t p hi)
theorem IterKept.set {w : World} {b : Nat} {T : TypeId} {v : Value} (h : Var1 w b T v) (u : Value) : IterKept w (w.setCell ⟨b, 0, none⟩ u) := fun bi t p hi => by
 rw [RowKit.Below.heap_setCell _ _ _ _ (fun e => by have e : bi = b := e; subst e; unfold Var1 at h; rw [hi] at h; cases h)]
 exact hi
theorem IterKept.keep {w w' : World} (k : Kp w w' n_) : IterKept w w' := fun bi t p hi => (k.block bi (zcY hi) id).trans hi
end
section
end
def Rd (w : World) (v : Value) (n : Nat) (xs : List Value) : Prop := ∃ a cap, v = .slice a n cap ∧ (0 < n → ∃ g, a = some ⟨g, 0, none⟩ ∧ g < w.heap.size ∧ At w g 0 xs)
theorem Rd.keep {w w' : World} {v : Value} {n : Nat} {xs : List Value} (h : Rd w v n xs) (k : Kp w w' n_) : Rd w' v n xs := by
 obtain ⟨a, cap, rfl, h⟩ := h
 exact ⟨a, cap, rfl, fun h0 => let ⟨g, h1, h3, h4⟩ := h h0; ⟨g, h1, Nat.lt_of_lt_of_le h3 k.size, zkI h4 k⟩⟩
theorem zlS (a b : List UInt8) : (str a = str b) ↔ a = b := ⟨fun e => by have := congrArg L e; rwa [L_str, L_str] at this, fun e => by rw [e]⟩
section
end
section
end
section
end
end Go.Proofs.YtmjeacpoobbjjaaGreatDoor
namespace Go.Cs
open Go.Lib
end Go.Cs
namespace Go.Proofs.YtmjeacpoobbjjaaGreatDoor
open Go.RowKit Go.Pw Go.Vc Go.Cs Go.Lib
section
end
def Rns (w : World) (B : Nat) (v : Value) (l : List Nat) : Prop := w.ownsRow B 3 1 v l.length (l.map fun (c : Nat) => Value.int .i64 (c : Int))
theorem intInfo : (Tryz.prog.info? 3).map (fun i => (i.zero, i.size, i.bytes)) = some (some (.int .i64 0), 1, 8) := by kernel_rfl
theorem byteInfo : (Tryz.prog.info? 5).map (fun i => (i.zero, i.size, i.bytes)) = some (some (.int .u8 0), 1, 1) := by kernel_rfl
theorem Rns.shape {w : World} {B : Nat} {v : Value} {l : List Nat} (h : Rns w B v l) : ∃ a cap, v = .slice a l.length cap := zad h
theorem zkw {w : World} {K : Value → World → Prop} {B : Nat} {v : Value} {l : List Nat} {cs : Array Bool} (h : Rns w B v l) (hB : B ≤ w.heap.size) (c : Nat) (hl : l.length ≤ 1000000000000)
  (k : ∀ v' w', Rns w' B v' (l ++ [c]) → (w.alloc (.cells #[.int .i64 (c : Int)] 3)).grownBy w' v.ownBlock → K v' w') :
  RunN Tryz.prog (builtin .append #[36, 36] 36 cs [v, .slice (some ⟨w.heap.size, 0, none⟩) 1 1].toArray) (w.alloc (.cells #[.int .i64 (c : Int)] 3)) K := by
 refine RunN.app Tryz.underlying36 intInfo rfl (by decide) (zai h ((Kp.refl _ _).alloc _)) (by simp; omega) ⟨w.heap.size, 0, none⟩ 1 1 [.int .i64 (c : Int)] rfl (zjm _ _ _) (by simp [Value.oneCell']) (by omega) (by omega) fun v' w' h2 h3 => k v' w' ?_ h3
 unfold Rns
 rw [List.length_append, List.map_append]
 exact h2
section
end
theorem Bytes.shape {w : World} {B : Nat} {v : Value} {l : List UInt8} (h : Bytes w B v l) : ∃ a cap, v = .slice a l.length cap := zad h
theorem Bytes.keep {w w' : World} {B : Nat} {v : Value} {l : List UInt8} (h : Bytes w B v l) (k : Kp w w' n_) : Bytes w' B v l := zai h k
theorem Rns.keep {w w' : World} {B : Nat} {v : Value} {l : List Nat} (h : Rns w B v l) (k : Kp w w' n_) : Rns w' B v l := zai h k
theorem zgL {w : World} {B cap n : Nat} {a : Option Addr} {l : List Nat} (h : Rns w B (.slice a n cap) l) {i : Nat} (hi : i < l.length) : ∃ g, a = some ⟨g, 0, none⟩ ∧ B ≤ g ∧ g < w.heap.size ∧ w.cell? ⟨g, 0 + i, none⟩ = some (.int .i64 ((l.getD i 0 : Nat) : Int)) := by
 have hs := zad h
 obtain ⟨a', c', e⟩ := hs
 injection e with _ e _
 subst e
 obtain ⟨g, rfl, hb, hg, hat⟩ := zfA h (by omega)
 exact ⟨g, rfl, hb, hg, hat i _ (by simp [hi, List.getD])⟩
section
end
section
end
section
variable {w : World}
theorem zfZ (k : Nat) (b : UInt8) (h1 : k ≠ 1) (h : k = 3 ∨ b.toNat < 128 ∨ 160 ≤ b.toNat) : sgn k b = b.toNat := by
 unfold sgn
 rw [if_neg h1]
 repeat' split
 all_goals first | rfl | omega
theorem zkP (k : Nat) (b : UInt8) (h1 : k = 4 ∨ k = 0) (h : 128 ≤ b.toNat) (h' : b.toNat < 160) : sgn k b = highT.getD (b.toNat - 128) 0 := by
 unfold sgn
 rw [if_neg (by omega), if_neg (by omega), if_neg (by omega), if_pos h']
end
section
variable {w : World}
theorem zli (s : ByteArray) (hT : Tabs w) (h0 : 0 < s.size) (hs : s.size ≤ 100000000) : Calls Tryz.prog 204 #[.string s] w fun e w' =>
  e = .returned (.tuple #[.int .i64 (decodeL (L s)).1, .string (s.extract (decodeL (L s)).2 s.size), .bool (good (L s))]) ∧ Kp w w' n_ := by
 have hl := L_len s
 have hne := L_ne h0
 have hw := decodeL_width (L s)
 have hle := decodeL_le _ hne
 have hr := decodeL_rune (L s)
 refine zaa (args := [.string s]) Tryz.func204 rfl NL ?_; refine GW ?_
 refine CallS.of (Tryz.call137 _ _) (zjI s w hT h0) ?_
 rintro e w1 ⟨rfl, k1⟩
 unfold good
 generalize (decodeL (L s)).1 = c at *
 generalize (decodeL (L s)).2 = k at *
 refine RT ?_
 refine GO ?_
 by_cases hc : c = 65533
 ·refine GO ?_
  refine ⟨?_, k1.drew⟩
  rw [zcT _ (by omega)]
  by_cases hk : k = 1
  ·simp [hc, hk]
  ·simp [hc, hk]; omega
 ·refine GO ?_
  refine ⟨?_, k1.drew⟩
  rw [zcT _ (by omega)]
  simp [hc]
theorem zku (s : ByteArray) (hT : Tabs w) (hs : s.size ≤ 100000000) : Calls Tryz.prog 186 #[.string s] w fun e w' => ∃ v, e = .returned v ∧ Rns w' w.heap.size v (runes (L s)) ∧ Kp w w' n_ := by
 have hrl := (zfI (L s)).1
 rw [L_len] at hrl
 refine zaa (args := [.string s]) Tryz.func186 rfl NL ?_; refine GW ?_
 refine Loop.intro (ι := ByteArray × Option Addr × Nat × List Nat) (fun i => [(0, .string i.1), (2, .slice i.2.1 i.2.2.2.length i.2.2.1)])
  (fun i wr => Kp w wr n_ ∧ i.1.size ≤ s.size ∧ Rns wr w.heap.size (.slice i.2.1 i.2.2.2.length i.2.2.1) i.2.2.2 ∧ runes (L s) = i.2.2.2 ++ runes (L i.1)) (fun i => i.1.size) (s, none, 0, []) ⟨rfl, rfl, trivial⟩
  ⟨Kp.refl _ _, Nat.le_refl _, World.ownsRow_nil _ _ _ _, rfl⟩ ?_
 rintro ⟨t, a, cap, d⟩ g wr ⟨hK, hn, hv, he⟩
 dsimp only at hn hv he ⊢
 refine GW ?_
 by_cases h0 : t.size = 0
 ·have e := (zfn t).2 h0
  refine Br.not_yes (Br.dec_yes e ?_)
  refine GO ?_
  rw [e] at he
  rw [show runes (L ⟨#[]⟩) = [] from rfl, List.append_nil] at he
  exact ⟨_, rfl, by rw [he]; exact hv, hK⟩
 ·have e : ¬ t = ⟨#[]⟩ := fun e => h0 ((zfn t).1 e)
  refine Br.not_yes (Br.dec_no e ?_)
  refine GO ?_
  refine CallS.of (Tryz.call204 _ _) (zli t (hT.keep hK) (by omega) (by omega)) ?_
  rintro e w1 ⟨rfl, k1⟩
  refine RT ?_
  have hne := L_ne (s := t) (by omega)
  have h1 := hv.keep k1
  have K1 := hK.trans0 k1
  have hw := decodeL_width (L t)
  have hd := decodeL_le _ hne
  rw [L_len] at hd
  have hdl : d.length ≤ s.size := by
   rw [he, List.length_append] at hrl
   omega
  refine RunV.of (zjo _ _) ?_
  refine GO ?_
  refine zkw h1 K1.size _ (by omega) fun v' w' h2 hg => ?_
  obtain ⟨a', cap', rfl⟩ := h2.shape
  have K2 := (K1.alloc (.cells #[.int .i64 ((decodeL (L t)).1 : Int)] 3)).own (zai h1 ((Kp.refl _ _).alloc _)) (Nat.le_refl _) hg
  refine GO ?_
  have hx : (t.extract (decodeL (L t)).2 t.size).size = t.size - (decodeL (L t)).2 := by simp
  refine ⟨(t.extract (decodeL (L t)).2 t.size, a', cap', d ++ [(decodeL (L t)).1]), ⟨rfl, v_sl (by simp), trivial⟩, ⟨K2, by dsimp only; omega, h2, ?_⟩, by dsimp only; omega⟩
  dsimp only
  rw [he, zbJ _ hne, L_from, List.append_assoc]; rfl
theorem zkW (n : Int) (h64 : -9223372036854775808 ≤ n ∧ n ≤ 9223372036854775807) : Calls Tryz.prog 203 #[.int .i64 n] w fun e w' => e = .returned (.string (str (encodeRune n))) ∧ w = w' := by
 refine zaa (args := [.int .i64 n]) Tryz.func203 rfl NL ?_; refine GW ?_
 by_cases h0 : n < 0
 ·refine GO ?_
  have : isSign n = false := by
   have h : ¬ (isSign n = true) := by rw [zcC]; omega
   simpa using h
  rw [zhW n this]
  exact ⟨rfl, rfl⟩
 ·by_cases h1 : 1114111 < n
  ·refine GO ?_
   have : isSign n = false := by
    have h : ¬ (isSign n = true) := by rw [zcC]; omega
    simpa using h
   rw [zhW n this]
   exact ⟨rfl, rfl⟩
  ·refine GO ?_
   exact ⟨zlb (by rw [zjC _ (by omega), zhC]), rfl⟩
end
section
end
section
end
end Go.Proofs.YtmjeacpoobbjjaaGreatDoor
namespace Go.Vc
open Go Go.Pw Go.RowKit
set_option linter.unusedSectionVars false
theorem zdI (a b : ByteArray) : (a == b) = decide (a = b) := by
 obtain ⟨a⟩ := a
 obtain ⟨b⟩ := b
 have e : ((ByteArray.mk a == ByteArray.mk b) : Bool) = (a == b) := rfl
 rw [e]
 by_cases h : a = b <;> simp [h]
abbrev GM (κ : Type) := List (κ × Value)
section
variable {κ : Type} [DecidableEq κ]
def GM.get : GM κ → κ → Option Value
 | [], _ => none
 | (s, v) :: r, k => if k = s then some v else GM.get r k
def GM.put : GM κ → κ → Value → GM κ
 | [], k, x => [(k, x)]
 | (s, v) :: r, k, x => if k = s then (s, x) :: r else (s, v) :: GM.put r k x
def GM.del : GM κ → κ → GM κ
 | [], _ => []
 | (s, v) :: r, k => if k = s then r else (s, v) :: GM.del r k
def GM.idx : GM κ → κ → Nat → Option (Nat × Value)
 | [], _, _ => none
 | (s, v) :: r, k, i => if k = s then some (i, v) else GM.idx r k (i + 1)
def entG (e : MapEntry) : Value × Value := (e.key, e.val)
def gmP (enc : κ → Value) (p : κ × Value) : Value × Value := (enc p.1, p.2)
structure KeyOk (P : Program) (kt : TypeId) (enc : κ → Value) : Prop where
 check : ∀ e k w, (Instr.checkKey e 10000 kt (enc k)).run P w = .ok () w
 find : ∀ w k (es : List MapEntry) (m : GM κ), es.map entG = m.map (gmP enc) → (Instr.findKey kt (enc k) es).run P w = .ok (m.idx k 0) w
 bits : ∀ k, Instr.sameBits 10000 (enc k) (enc k) = true
def GMap (enc : κ → Value) (w : World) (b : Nat) (m : GM κ) : Prop := ∃ es clock, w.heap[b]? = some (.map es clock) ∧ es.toList.map entG = m.map (gmP enc)
theorem GM.idx_get (k : κ) : ∀ (m : GM κ) (i : Nat), (m.idx k i).map (·.2) = m.get k
 | [], i => rfl
 | (s, v) :: r, i => by
  unfold GM.idx GM.get
  split
  ·rfl
  ·exact GM.idx_get k r (i + 1)
theorem GM.idx_none (k : κ) : ∀ (m : GM κ) (i : Nat), m.idx k i = none → m.get k = none ∧ (∀ x, m.put k x = m ++ [(k, x)]) ∧ m.del k = m
 | [], i, _ => ⟨rfl, fun _ => rfl, rfl⟩
 | (s, v) :: r, i, h => by
  unfold GM.idx at h
  split at h
  ·cases h
  ·rename_i hk
   obtain ⟨h1, h2, h3⟩ := GM.idx_none k r (i + 1) h
   exact ⟨by simp [GM.get, hk, h1], fun x => by simp [GM.put, hk, h2], by simp [GM.del, hk, h3]⟩
theorem GM.idx_some {enc : κ → Value} (k : κ) : ∀ (es : List MapEntry) (m : GM κ) (i j : Nat) (v : Value), es.map entG = m.map (gmP enc) → m.idx k i = some (j, v) →
  ∃ d, j = i + d ∧ d < es.length ∧ m.get k = some v ∧ (es[d]?).map (·.key) = some (enc k) ∧ (∀ x, (es.modify d fun e => { e with key := enc k, val := x }).map entG = (m.put k x).map (gmP enc)) ∧ (es.eraseIdx d).map entG = (m.del k).map (gmP enc)
 | [], m, i, j, v, h, hi => by
  have : m = [] := by cases m with | nil => rfl | cons a r => simp at h
  subst this; simp [GM.idx] at hi
 | e :: es, [], i, j, v, h, hi => by simp at h
 | e :: es, (s, x0) :: r, i, j, v, h, hi => by
  simp only [List.map_cons, List.cons.injEq] at h
  obtain ⟨h1, h2⟩ := h
  simp only [entG, gmP, Prod.mk.injEq] at h1
  obtain ⟨h3, h4⟩ := h1
  unfold GM.idx at hi
  split at hi
  ·rename_i hk
   subst hk
   simp only [Option.some.injEq, Prod.mk.injEq] at hi
   obtain ⟨rfl, rfl⟩ := hi
   refine ⟨0, by simp, by simp, by simp [GM.get], by simp [h3], fun x => ?_, ?_⟩
   ·simp only [List.modify_zero_cons, List.map_cons, GM.put, if_pos, h2]
    simp [entG, gmP]
   ·simp [GM.del, h2]
  ·rename_i hk
   obtain ⟨d, q1, q2, q3, q4, q5, q6⟩ := GM.idx_some k es r (i + 1) j v h2 hi
   refine ⟨d + 1, by omega, Nat.succ_lt_succ q2, by simp [GM.get, hk, q3], by simpa using q4, fun x => ?_, ?_⟩
   ·simp only [List.modify_succ_cons, List.map_cons, GM.put, if_neg hk, q5 x]
    simp [entG, gmP, h3, h4]
   ·simp only [List.eraseIdx_cons_succ, List.map_cons, GM.del, if_neg hk, q6]
    simp [entG, gmP, h3, h4]
theorem GM.get_put (k k' : κ) (x : Value) : ∀ (m : GM κ), (m.put k x).get k' = if k' = k then some x else m.get k'
 | [] => by simp [GM.put, GM.get]
 | (s, v) :: r => by
  unfold GM.put
  by_cases h : k = s
  ·subst h
   rw [if_pos rfl]
   simp only [GM.get]
   split <;> rfl
  ·rw [if_neg h]
   simp only [GM.get]
   by_cases h2 : k' = s
   ·rw [if_pos h2, if_pos h2, if_neg (fun e => h (by rw [← e, h2]))]
   ·rw [if_neg h2, if_neg h2, GM.get_put k k' x r]
variable {enc : κ → Value} {P : Program} {w : World} {b : Nat} {m : GM κ} {t kt et : TypeId} {K : Value → World → Prop}
theorem GMap.lt (h : GMap enc w b m) : b < w.heap.size := by
 obtain ⟨es, cl, hb, he⟩ := h
 rcases Nat.lt_or_ge b w.heap.size with h' | h'
 ·exact h'
 ·rw [Array.getElem?_eq_none h'] at hb; cases hb
theorem GMap.keep {w' : World} {c : Nat → Prop} (h : GMap enc w b m) (k : Kp w w' c) (hc : ¬ c b) : GMap enc w' b m := by
 have hlt := h.lt
 obtain ⟨es, cl, hb, he⟩ := h
 exact ⟨es, cl, (k.block b hlt hc).trans hb, he⟩
theorem GMap.new (w : World) : GMap enc (w.alloc (.map #[] 0)) w.heap.size ([] : GM κ) := ⟨#[], 0, heap_alloc_new w _, rfl⟩
theorem RunV.makeMap {r : Option Value} (hr : r = none) (k : K (.map (some w.heap.size)) (w.alloc (.map #[] 0))) : RunV P (Instr.makeMap t r) w K := by
 subst hr
 exact RunV.of (by simp [Instr.makeMap]) k
theorem RunV.lookG (ok : KeyOk P kt enc) (ht : P.underlying t = some (.map kt et)) {z : Value} (hz : (zeroValue et).run P w = .ok z w) (h : GMap enc w b m) (s : κ) {e : Value} (he : e = enc s) (k : K ((m.get s).getD z) w) :
  RunV P (Instr.lookup t (.map (some b)) e false) w K := by
 subst he
 obtain ⟨es, clock, hb, he⟩ := h
 refine ⟨_, w, ?_, k⟩
 have h1 := GM.idx_get s m 0
 cases hi : m.idx s 0 with
 | none =>
  rw [hi] at h1
  simp [Instr.lookup, zat ht, getObj, Sem.run, hb, ok.check, ok.find w s es.toList m he, hi, hz, ← h1]
 | some jv =>
  obtain ⟨j, v⟩ := jv
  rw [hi] at h1
  simp [Instr.lookup, zat ht, getObj, Sem.run, hb, ok.check, ok.find w s es.toList m he, hi, ← h1]
theorem RunV.lookG2 (ok : KeyOk P kt enc) (ht : P.underlying t = some (.map kt et)) {z : Value} (hz : (zeroValue et).run P w = .ok z w) (h : GMap enc w b m) (s : κ) {e : Value} (he : e = enc s) (k : K (.tuple #[(m.get s).getD z, .bool (m.get s).isSome]) w) :
  RunV P (Instr.lookup t (.map (some b)) e true) w K := by
 subst he
 obtain ⟨es, clock, hb, he⟩ := h
 refine ⟨_, w, ?_, k⟩
 have h1 := GM.idx_get s m 0
 cases hi : m.idx s 0 with
 | none =>
  rw [hi] at h1
  simp [Instr.lookup, zat ht, getObj, Sem.run, hb, ok.check, ok.find w s es.toList m he, hi, hz, ← h1]
 | some jv =>
  obtain ⟨j, v⟩ := jv
  rw [hi] at h1
  simp [Instr.lookup, zat ht, getObj, Sem.run, hb, ok.check, ok.find w s es.toList m he, hi, ← h1]
def setOG (w : World) (b : Nat) (o : Obj) : World := { w with heap := w.heap.set! b o }
theorem zfG (o : Obj) (hb : b < w.heap.size) : (setOG w b o).heap[b]? = some o := by
 simp [setOG, hb]
theorem zdh (o : Obj) : Kp w (setOG w b o) (one_ b) :=
 ⟨rfl, rfl, rfl, by simp [setOG], fun k hk hn => by
  have : b ≠ k := fun e => hn e.symm
  simp [setOG, this]⟩
theorem RunU.updG {K : World → Prop} (ok : KeyOk P kt enc) (ht : P.underlying t = some (.map kt et)) (h : GMap enc w b m) (s : κ) {e : Value} (he : e = enc s) (x : Value) (k : ∀ w', GMap enc w' b (m.put s x) → Kp w w' (one_ b) → K w') :
  RunU P (Instr.mapUpdate t (.map (some b)) e x) w K := by
 subst he
 have hlt := h.lt
 obtain ⟨es, clock, hb, he⟩ := h
 have hf := ok.find w s es.toList m he
 cases hi : m.idx s 0 with
 | none =>
  rw [hi] at hf
  obtain ⟨a1, a2, a3⟩ := GM.idx_none s m 0 hi
  refine ⟨setOG w b (.map (es.push { key := enc s, val := x, born := clock }) (clock + 1)), ?_, k _ ⟨_, _, zfG _ hlt, ?_⟩ (zdh _)⟩
  ·simp [Instr.mapUpdate, zat ht, getObj, setObj, Sem.run, hb, ok.check, hf, setOG]
  ·simp [a2, he, entG, gmP]
 | some jv =>
  obtain ⟨j, v⟩ := jv
  rw [hi] at hf
  obtain ⟨d, q1, q2, q3, q4, q5, q6⟩ := GM.idx_some s es.toList m 0 j v he hi
  obtain rfl : j = d := by omega
  have e2 : ((es[j]?).map (·.key)).getD (enc s) = enc s := by
   rw [← Array.getElem?_toList, q4]; rfl
  refine ⟨setOG w b (.map (es.modify j fun e => { e with key := enc s, val := x }) clock), ?_, k _ ⟨_, _, zfG _ hlt, ?_⟩ (zdh _)⟩
  ·simp [Instr.mapUpdate, zat ht, getObj, setObj, Sem.run, hb, ok.check, hf, setOG, e2, Instr.keyThatStays, ok.bits]
  ·rw [Array.toList_modify]; exact q5 x
end
section
variable {P : Program} {kt : TypeId}
theorem zho {κ : Type} [DecidableEq κ] {enc : κ → Value} {u : TypeDesc} (hu : P.underlying kt = some u) (hs : ∀ a b, Instr.sameNow u (enc a) (enc b) = some (decide (a = b))) (w : World) (k : κ) (es : List MapEntry) (m : GM κ) (h : es.map entG = m.map (gmP enc)) :
  (Instr.findKey kt (enc k) es).run P w = .ok (m.idx k 0) w := by
 have key : ∀ (es : List MapEntry) (m : GM κ) (i : Nat), es.map entG = m.map (gmP enc) → Instr.findNow u (enc k) es i = some (m.idx k i) := by
  intro es
  induction es with
  | nil =>
   intro m i h
   have : m = [] := by cases m with | nil => rfl | cons a r => simp at h
   subst this; rfl
  | cons e es ih =>
   intro m i h
   cases m with
   | nil => simp at h
   | cons p r =>
    obtain ⟨s, v⟩ := p
    simp only [List.map_cons, List.cons.injEq] at h
    obtain ⟨h1, h2⟩ := h
    simp only [entG, gmP, Prod.mk.injEq] at h1
    obtain ⟨h3, h4⟩ := h1
    unfold Instr.findNow GM.idx
    rw [h3, hs]
    by_cases hk : k = s
    ·simp [hk, h4]
    ·simp [hk, ih r (i + 1) h2]
 unfold Instr.findKey
 simp [zat hu, key es m 0 h]
theorem zfr (hk : P.underlying kt = some .string) : KeyOk P kt Value.string where
 check e k w := by
  show (Instr.checkKey e (9999 + 1) kt _).run P w = _
  unfold Instr.checkKey
  simp [zat hk]
 find := zho hk fun a b => by simp [Instr.sameNow, zdI]
 bits k := by simp [Instr.sameBits, zdI]
theorem zif {κ : Type} [DecidableEq κ] {enc : κ → Value} {u : TypeDesc} (hu : P.underlying kt = some u) (hn : ∀ a b, Instr.sameNow u (enc a) (enc b) = none) (heq : ∀ w a b, (Op.equal kt (enc a) (enc b)).run P w = .ok (decide (a = b)) w)
  (hc : ∀ e k w, (Instr.checkKey e 10000 kt (enc k)).run P w = .ok () w) (hb : ∀ k, Instr.sameBits 10000 (enc k) (enc k) = true) : KeyOk P kt enc where
 check := hc
 bits := hb
 find w k es m h := by
  have ask : ∀ (es : List MapEntry) (m : GM κ) (i : Nat), es.map entG = m.map (gmP enc) → (Instr.findAsking kt (enc k) es i).run P w = .ok (m.idx k i) w := by
   intro es
   induction es with
   | nil =>
    intro m i h
    have : m = [] := by cases m with | nil => rfl | cons a r => simp at h
    subst this; rfl
   | cons e es ih =>
    intro m i h
    cases m with
    | nil => simp at h
    | cons p r =>
     obtain ⟨s, v⟩ := p
     simp only [List.map_cons, List.cons.injEq] at h
     obtain ⟨h1, h2⟩ := h
     simp only [entG, gmP, Prod.mk.injEq] at h1
     obtain ⟨h3, h4⟩ := h1
     unfold Instr.findAsking GM.idx
     rw [h3]
     by_cases hk : k = s
     ·simp [heq, hk, h4]
     ·simp [heq, hk, ih r (i + 1) h2]
  unfold Instr.findKey
  cases es with
  | nil =>
   have : m = [] := by cases m with | nil => rfl | cons a r => simp at h
   subst this
   simp [zat hu, Instr.findNow, GM.idx]
  | cons e es =>
   cases m with
   | nil => simp at h
   | cons p r =>
    have h1 := h
    simp only [List.map_cons, List.cons.injEq] at h1
    have h3 : e.key = enc p.1 := by have := h1.1; simp only [entG, gmP, Prod.mk.injEq] at this; exact this.1
    have : Instr.findNow u (enc k) (e :: es) 0 = none := by unfold Instr.findNow; rw [h3, hn]
    simp [zat hu, this, ask (e :: es) (p :: r) 0 h]
end
end Go.Vc
namespace Go.Proofs.YtmjeacpoobbjjaaGreatDoor
open Go.RowKit Go.Pw Go.Vc Go.Cs Go.Lib
def boxCells (b : Bx) : List Value := [.int .i64 b.id, .int .i64 b.up, .string (str b.name), .string (str b.role)]
abbrev RowB (w : World) (v : Value) (l : List Bx) : Prop := RowO w v boxCells l
section
end
end Go.Proofs.YtmjeacpoobbjjaaGreatDoor
namespace Go.Cs
open Go.Lib
end Go.Cs
namespace Go.Proofs.YtmjeacpoobbjjaaGreatDoor
open Go.RowKit Go.Pw Go.Vc Go.Cs Go.Lib
section
end
def encS (s : List UInt8) : Value := .string (str s)
theorem keyStr : KeyOk Tryz.prog 9 encS where
 check e k w := (zfr Tryz.underlying9).check e (str k) w
 find := zho Tryz.underlying9 fun a b => by
  show some (str a == str b) = _
  rw [zdI]
  congr 1
  rw [Bool.eq_iff_iff, decide_eq_true_eq, decide_eq_true_eq, zlS]
 bits k := (zfr Tryz.underlying9).bits (str k)
theorem _root_.Go.Vc.GM.put_new {κ : Type} [DecidableEq κ] {m : GM κ} {k : κ} (h : m.get k = none) (x : Value) : m.put k x = m ++ [(k, x)] := by
 have h1 := GM.idx_get k m 0
 rw [h] at h1
 exact (GM.idx_none k m 0 (Option.map_eq_none_iff.1 h1)).2.1 x
def UsedM (l : List Bx) (m : GM (List UInt8)) : Prop := ∀ r, (∃ x : Int, x ≠ 0 ∧ m.get r = some (.int .i64 x) ∧ ∃ b ∈ l, b.role = r) ∨ (m.get r = none ∧ ∀ b ∈ l, b.role ≠ r)
theorem UsedM.put {l : List Bx} {m : GM (List UInt8)} (h : UsedM l m) (b : Bx) (hb : b.id ≠ 0) : UsedM (l ++ [b]) (m.put b.role (.int .i64 b.id)) := fun r => by
 rw [GM.get_put]
 by_cases e : r = b.role
 ·left
  rw [if_pos e]
  exact ⟨b.id, hb, rfl, b, by simp, e.symm⟩
 ·rw [if_neg e]
  rcases h r with ⟨x, h1, h2, c, hc, h3⟩ | ⟨h1, h2⟩
  ·exact .inl ⟨x, h1, h2, c, by simp [hc], h3⟩
  ·refine .inr ⟨h1, fun c hc => ?_⟩
   rcases List.mem_append.1 hc with hc | hc
   ·exact h2 c hc
   ·rw [List.mem_singleton.1 hc]; exact fun q => e q.symm
section
end
section
end
section
end
section
end
section
end
section
end
section
end
section
end
end Go.Proofs.YtmjeacpoobbjjaaGreatDoor
namespace Go.Vc
open Go Go.Pw
theorem zfy {α : Type} (f : α → List Value) (n : Nat) (hf : ∀ x, (f x).length = n) {j : Nat} (hj : j < n) (v : Value) (x : α) : ∀ (l : List α) (k : Nat) (hk : k < l.length), f x = (f l[k]).set j v → (l.flatMap f).set (k * n + j) v = (l.set k x).flatMap f
 | [], k, hk, _ => by simp at hk
 | y :: r, 0, _, h => by
  rw [List.set_cons_zero, List.flatMap_cons, List.flatMap_cons, Nat.zero_mul, Nat.zero_add, List.set_append_left _ _ (by rw [hf]; exact hj)]
  have h : f x = (f y).set j v := h
  rw [h]
 | y :: r, k + 1, hk, h => by
  rw [List.set_cons_succ, List.flatMap_cons, List.flatMap_cons, List.set_append_right _ _ (by rw [hf, Nat.succ_mul]; omega), hf, show (k + 1) * n + j - n = k * n + j by rw [Nat.succ_mul]; omega]
  rw [zfy f n hf hj v x r k (by simpa using hk) h]
theorem zgM {α : Type} {w w' : World} {B e s g cap : Nat} {cells : List Value} {f : α → List Value} {l : List α} (hf : ∀ x, (f x).length = s) {k j : Nat} (hk : k < l.length) (hj : j < s) {v : Value} {x : α} (hx : f x = (f l[k]).set j v)
  (hB : B ≤ g) (hn : l.length ≤ cap) (hc : cap ≤ maxLen) (hl : cells.length = cap * s) (ht : cells.take (l.length * s) = l.flatMap f) (h : VarK w' g e (cells.set (k * s + j) v)) : w'.ownsRow B e s (.slice (some ⟨g, 0, none⟩) l.length cap) l.length ((l.set k x).flatMap f) := by
 refine zih hB h hn hc (by rw [List.length_set, hl]) ?_ (by rw [zbb f s hf, List.length_set])
 rw [List.take_set, ht]
 exact zfy f s hf hj v x l k hk hx
end Go.Vc
namespace Go.Cs

end Go.Cs
namespace Go.Proofs.YtmjeacpoobbjjaaGreatDoor
open Go.RowKit Go.Pw Go.Vc Go.Cs Go.Lib
section
end
section
end
end Go.Proofs.YtmjeacpoobbjjaaGreatDoor
namespace Go.Proofs.YtmjeacpoobbjjaaGreatDoor
open Go.Shelf Go.RowKit Go.Pw Go.Vc Go.Cs Go.Lib Go.Sort
section
variable {w : World}
theorem zij {w w' : World} {B s n : Nat} {e : TypeId} {v : Value} {xs : List Value} (h : w.ownsRow B e s v n xs) (k : Kp w w' (own_ v)) (a : World) (ha : Kp a w n_) (hB : a.heap.size ≤ B) : Kp a w' n_ :=
 ha.trans k fun q hq e => by have := (h.lt q e).1; omega
end
end Go.Proofs.YtmjeacpoobbjjaaGreatDoor
namespace Go.Proofs.YtmjeacpoobbjjaaGreatDoor
open Go.Shelf Go.RowKit Go.Pw Go.Vc Go.Cs Go.Lib
section
variable {w : World}
theorem zbk {s : List UInt8} {i : Nat} (h : i < s.length) : byteAt (str s) i = s[i] := by
 show s.getD i 0 = _
 rw [List.getD, List.getElem?_eq_getElem h]; rfl
theorem zfa {s : List UInt8} {p : UInt8 → Bool} {i : Nat} (h : i < s.length) (ha : (s.take i).all p = true) (hp : p s[i] = true) : (s.take (i + 1)).all p = true := by
 rw [List.take_succ_eq_append_getElem h, List.all_append, ha]; simp [hp]
theorem zjg {s : List UInt8} {p : UInt8 → Bool} {i : Nat} (h : i < s.length) (hp : ¬ p s[i] = true) : s.all p = false := by
 rw [List.all_eq_false]
 exact ⟨_, List.getElem_mem h, hp⟩
end
end Go.Proofs.YtmjeacpoobbjjaaGreatDoor
namespace Go.Proofs.YtmjeacpoobbjjaaGreatDoor
open Go.Shelf Go.RowKit Go.Pw Go.Vc Go.Cs Go.Lib Go.Tk Go.Hd
section
variable {w : World}
theorem zaL {c d : UInt8} (h : ¬ c = d) : ¬ (c.toNat : Int) = (d.toNat : Int) := fun e => h (UInt8.toNat_inj.1 (by omega))
theorem zgK (c : UInt8) (w : World) : Calls Tryz.prog 115 #[.int .u8 c.toNat] w fun e w' => e = .returned (.bool (blankT c)) ∧ Kp w w' n_ := by
 by_cases h1 : c = 9
 ·subst h1
  refine zaa (args := [.int .u8 9]) Tryz.func115 rfl NL ?_; refine GW ?_
  refine LGO ?_
  exact ⟨rfl, Kp.refl _ _⟩
 by_cases h2 : c = 10
 ·subst h2
  refine zaa (args := [.int .u8 10]) Tryz.func115 rfl NL ?_; refine GW ?_
  refine LGO ?_
  exact ⟨rfl, Kp.refl _ _⟩
 by_cases h3 : c = 13
 ·subst h3
  refine zaa (args := [.int .u8 13]) Tryz.func115 rfl NL ?_; refine GW ?_
  refine LGO ?_
  exact ⟨rfl, Kp.refl _ _⟩
 by_cases h4 : c = 32
 ·subst h4
  refine zaa (args := [.int .u8 32]) Tryz.func115 rfl NL ?_; refine GW ?_
  refine LGO ?_
  exact ⟨rfl, Kp.refl _ _⟩
 have e : blankT c = false := by unfold blankT; simp [h1, h2, h3, h4]
 have h1 : ¬ (c.toNat : Int) = 9 := zaL h1
 have h2 : ¬ (c.toNat : Int) = 10 := zaL h2
 have h3 : ¬ (c.toNat : Int) = 13 := zaL h3
 have h4 : ¬ (c.toNat : Int) = 32 := zaL h4
 rw [e]
 refine zaa (args := [.int .u8 c.toNat]) Tryz.func115 rfl NL ?_; refine GW ?_
 refine GO ?_
 exact ⟨by rw [beq_eq_false_iff_ne.2 h4], Kp.refl _ _⟩
theorem ziS (c : UInt8) (w : World) : Calls Tryz.prog 117 #[.int .u8 c.toNat] w fun e w' => e = .returned (.bool (atomT c)) ∧ Kp w w' n_ := by
 unfold atomT
 refine zaa (args := [.int .u8 c.toNat]) Tryz.func117 rfl NL ?_; refine GW ?_
 by_cases h1 : 32 < (c.toNat : Int)
 ·by_cases h2 : c = 127
  ·subst h2
   refine LGO ?_
   exact ⟨rfl, Kp.refl _ _⟩
  have h2' : ¬ (c.toNat : Int) = 127 := zaL h2
  refine GO ?_
  refine CallS.of (Tryz.call63 _ _) (zaG ⟨#[40, 41, 60, 62, 91, 93, 58, 59, 64, 92, 44, 46, 34]⟩ c w) ?_
  rintro e w1 ⟨rfl, rfl⟩
  refine RT ?_
  refine GO ?_
  refine ⟨?_, Kp.refl _ _⟩
  have hx := zgf specT c
  have hd : decide (Lib.indexByte (L ⟨#[40, 41, 60, 62, 91, 93, 58, 59, 64, 92, 44, 46, 34]⟩) c < 0) = !specT.contains c := by
   show decide (Lib.indexByte specT c < 0) = _
   cases hc : specT.contains c
   ·exact decide_eq_true (hx.2 hc)
   ·refine decide_eq_false fun h => ?_
    have := hx.1 h; rw [hc] at this; cases this
  rw [hd, decide_eq_true (by omega : 32 < c.toNat), bne_iff_ne.2 h2]; rfl
 ·refine GO ?_
  refine ⟨?_, Kp.refl _ _⟩
  rw [decide_eq_false (by omega : ¬ 32 < c.toNat)]; rfl
theorem zcX (p : UInt8 → Bool) : ∀ (s : List UInt8) (k : Nat), (∀ j, j < k → ∀ h : j < s.length, p s[j] = true) → k ≤ s.length → rowT p s = k + rowT p (s.drop k)
 | s, 0, _, _ => by rw [List.drop_zero, Nat.zero_add]
 | [], k + 1, _, h => by simp at h
 | c :: r, k + 1, hp, h => by
  have h0 : p c = true := hp 0 (by omega) (by simp)
  have ih := zcX p r k (fun j hj hl => hp (j + 1) (by omega) (by simpa using hl)) (by simpa using h)
  show (if p c = true then rowT p r + 1 else 0) = _
  rw [if_pos h0, ih, List.drop_succ_cons]; omega
theorem zkB (s : List UInt8) (p : UInt8 → Bool) (F : FuncId) (hF : ∀ (c : UInt8) w, Calls Tryz.prog F #[.int .u8 c.toNat] w fun e w' => e = .returned (.bool (p c)) ∧ Kp w w' n_)
  (hcF : ∀ (args : Array Value) (w : World), (callFunc F args).run Tryz.prog w = .ok (.enter F args) w) (hs : s.length ≤ 1000000000) (w : World) :
  Calls Tryz.prog 116 #[.string (str s), .func (.func F) #[] #[]] w fun e w' => e = .returned (.int .i64 (rowT p s : Nat)) ∧ Kp w w' n_ := by
 have hz := zae s
 refine zaa (args := [.string (str s), .func (.func F) #[] #[]]) Tryz.func116 rfl NL ?_; refine GW ?_
 rw [hz]
 refine Loop.intro (ι := Nat) (fun i => [(0, .string (str s)), (1, .func (.func F) #[] #[]), (7, .int .i64 (s.length : Nat)), (8, .int .i64 (i : Nat))])
  (fun i wr => Kp w wr n_ ∧ i ≤ s.length ∧ ∀ j, j < i → ∀ h : j < s.length, p s[j] = true) (fun i => s.length - i) 0 ⟨rfl, rfl, rfl, rfl, trivial⟩ ⟨Kp.refl _ _, Nat.zero_le _, fun j h => by omega⟩ ?_
 rintro i g wr ⟨hK, hi, hp⟩
 refine GW ?_
 by_cases hlt : i < s.length
 ·refine GO ?_
  rw [zbk hlt]
  refine CallS.of (hcF _ _) (hF s[i] wr) ?_
  rintro e w1 ⟨rfl, k1⟩
  refine RT ?_
  have hK1 := hK.trans0 k1
  cases hc : p s[i]
  ·refine GO ?_
   refine ⟨?_, hK1⟩
   rw [zcX p s i hp hi, List.drop_eq_getElem_cons hlt]
   unfold rowT
   rw [hc]; rfl
  ·refine GO ?_
   refine ⟨i + 1, ⟨rfl, rfl, rfl, v_int (by simp), trivial⟩, ⟨hK1, hlt, fun j hj hl => ?_⟩, by dsimp only; omega⟩
   by_cases hji : j = i
   ·subst hji; exact hc
   ·exact hp j (by omega) hl
 ·have e : i = s.length := by omega
  subst e
  refine GO ?_
  refine ⟨?_, hK⟩
  rw [zcX p s s.length hp hi, List.drop_length]; simp [rowT, hz]
end
end Go.Proofs.YtmjeacpoobbjjaaGreatDoor
namespace Go.Proofs.YtmjeacpoobbjjaaGreatDoor
open Go.Shelf Go.RowKit Go.Pw Go.Vc Go.Cs Go.Lib
structure MailOk (w : World) (x : Mr) : Prop where
 b : RowI w x.b.v x.m.boxes
 f : RowT w x.f.v x.m.flags
theorem MailOk.keep {w w' : World} {x : Mr} (h : MailOk w x) (k : Kp w w' n_) : MailOk w' x := ⟨h.b.keep k, h.f.keep k⟩
theorem zab {a w w' : World} {b : Nat} (h : Kp a w n_) (k : Kp w w' (one_ b)) (hb : a.heap.size ≤ b) : Kp a w' n_ := h.trans k fun q hq e => by have e : q = b := e; omega
section
end
structure Hd where
 B : Sl
 M : Sl
 S : Sl
 N : Sl
def RowM (w : World) (v : Value) (l : List Ml) : Prop := ∃ lx : List Mr, lx.map (·.m) = l ∧ RowMr w v lx ∧ ∀ x ∈ lx, MailOk w x
theorem RowM.keep {w w' : World} {v : Value} {l : List Ml} (h : RowM w v l) (k : Kp w w' n_) : RowM w' v l := by
 obtain ⟨lx, h1, h2, h3⟩ := h
 exact ⟨lx, h1, h2.keep k, fun x hx => (h3 x hx).keep k⟩
structure AccR (w : World) (h : Hd) (A : Acc) : Prop where
 b : RowB w h.B.v A.boxes
 m : RowM w h.M.v A.mails
 s : RowS w h.S.v A.scripts
 n : RowN w h.N.v A.seen
theorem AccR.keep {w w' : World} {h : Hd} {A : Acc} (r : AccR w h A) (k : Kp w w' n_) : AccR w' h A := ⟨r.b.keep k, r.m.keep k, r.s.keep k, r.n.keep k⟩
section
end
section
end
section
end
def Mr.bs (x : Mr) : List Nat := x.b.v.ownBlock.toList ++ x.f.v.ownBlock.toList
def Hd.bs (h : Hd) : List Nat := h.B.v.ownBlock.toList ++ h.S.v.ownBlock.toList ++ h.N.v.ownBlock.toList ++ h.M.v.ownBlock.toList
section
end
end Go.Proofs.YtmjeacpoobbjjaaGreatDoor
namespace Go.Proofs.YtmjeacpoobbjjaaGreatDoor
open Go.RowKit Go.Pw Go.Vc Go.Cs Go.Lib
end Go.Proofs.YtmjeacpoobbjjaaGreatDoor
namespace Go.Vc
open Go Go.Pw Go.RowKit
theorem RunN.appNone {P : Program} {w : World} {K : Value → World → Prop} {t ty e : TypeId} {cs : Array Bool} {B s n c bytes : Nat} {z v : Value} {xs : List Value} (ht : P.underlying t = some (.slice e)) (hb : (P.info? e).map (fun i => (i.zero, i.size, i.bytes)) = some (some z, s, bytes))
  (hown : w.ownsRow B e s v n xs) (k : K v w) : RunN P (builtin .append #[t, t] ty cs [v, .slice none 0 c].toArray) w K := by
 obtain ⟨i, hi, _, _, _⟩ := zka hb
 refine ⟨v, w, ?_, k⟩
 show (do pure (Next.value (← Builtin.append_ #[t, t] ty #[v, .slice none 0 c])) : Sem Next).run P w = _
 rcases hown.2 with ⟨rfl, rfl⟩ | ⟨g, cap, cur, rfl, _, _, hnc, _⟩
 ·simp [Builtin.append_, run_underlying ht, sizeOf, typeInfo, hi, Builtin.lenOf, Builtin.firstCells]
 ·simp [Builtin.append_, run_underlying ht, sizeOf, typeInfo, hi, Builtin.lenOf, Builtin.firstCells, hnc, storeCells]
end Go.Vc
namespace Go.Proofs.YtmjeacpoobbjjaaGreatDoor
open Go.Shelf Go.RowKit Go.Pw Go.Vc Go.Cs Go.Lib
section
end
structure RowTy {α : Type} (T E : TypeId) (c : α → List Value) (s bytes : Nat) : Prop where
 ht : Tryz.prog.underlying T = some (.slice E)
 hb : ∃ z, (Tryz.prog.info? E).map (fun i => (i.zero, i.size, i.bytes)) = some (some z, s, bytes) ∧ z.cells.size = s
 hs : 0 < s
 len : ∀ x, (c x).length = s
 one : ∀ x, ∀ u ∈ c x, u.oneCell' = true
abbrev OwnR {α : Type} (E : TypeId) (c : α → List Value) (s : Nat) (w : World) (B : Nat) (v : Value) (l : List α) : Prop := w.ownsRow B E s v l.length (l.flatMap c)
section
variable {α : Type} {T E : TypeId} {c : α → List Value} {s bytes : Nat} {w : World} {K : Value → World → Prop} {B : Nat} {v : Value} {l : List α} {cs : Array Bool}
theorem RowTy.app (ty : RowTy T E c s bytes) {a : Option Addr} {m cap : Nat} (r : List α) (h : OwnR E c s w B v l) (hB : B ≤ w.heap.size) (hm : m = r.length) (hr : 0 < m → ∃ g o, a = some ⟨g, o, none⟩ ∧ At w g o (r.flatMap c))
  (h63 : l.length + r.length ≤ 9223372036854775807) (hbytes : (l.length + r.length) * bytes ≤ 140737488355328) (k : ∀ v' w', OwnR E c s w' B v' (l ++ r) → Kp w w' (own_ v) → K v' w') :
  RunN Tryz.prog (builtin .append #[T, T] T cs [v, .slice a m cap].toArray) w K := by
 subst hm
 obtain ⟨z, hb, hz⟩ := ty.hb
 cases a with
 | none =>
  have h0 : r.length = 0 := by
   rcases Nat.eq_zero_or_pos r.length with h0 | h0
   ·exact h0
   ·obtain ⟨g, o, e, _⟩ := hr h0; cases e
  have hn := List.eq_nil_of_length_eq_zero h0
  subst hn
  refine RunN.appNone ty.ht hb h (k _ _ ?_ (Kp.refl _ _))
  rw [List.append_nil]; exact h
 | some a =>
  refine RunN.app ty.ht hb hz ty.hs h hB a r.length cap (r.flatMap c) (zbb c s ty.len r) (fun j u hj => ?_) (fun u hu => ?_) h63 hbytes fun v' w' h2 h3 => k v' w' ?_ ?_
  ·rcases Nat.eq_zero_or_pos r.length with h0 | h0
   ·rw [List.eq_nil_of_length_eq_zero h0] at hj; simp at hj
   ·obtain ⟨g, o, e, hat⟩ := hr h0
    injection e with e
    subst e
    rw [zaH]
    exact hat j u hj
  ·obtain ⟨x, _, hx⟩ := List.mem_flatMap.1 hu
   exact ty.one x u hx
  ·unfold OwnR
   rw [List.length_append, List.flatMap_append]
   exact h2
  ·exact ⟨h3.os, h3.tape, h3.output, h3.size, fun i hi hn => h3.block i hi fun e => hn e.symm⟩
theorem RowTy.app1 (ty : RowTy T E c s bytes) {b cap : Nat} (x : α) (h : OwnR E c s w B v l) (hB : B ≤ w.heap.size) (hx : At w b 0 (c x)) (h63 : l.length + 1 ≤ 9223372036854775807) (hbytes : (l.length + 1) * bytes ≤ 140737488355328)
  (k : ∀ v' w', OwnR E c s w' B v' (l ++ [x]) → Kp w w' (own_ v) → K v' w') : RunN Tryz.prog (builtin .append #[T, T] T cs [v, .slice (some ⟨b, 0, none⟩) 1 cap].toArray) w K :=
 ty.app [x] h hB rfl (fun _ => ⟨b, 0, rfl, by rw [List.flatMap_singleton]; exact hx⟩) h63 hbytes k
theorem zcM {g o : Nat} (hl : ∀ x, (c x).length = s) (h : At w g o (l.flatMap c)) (i : Nat) : At w g (o + i * s) ((l.drop i).flatMap c) := fun j u hj => by
 rw [← zen c s hl, List.getElem?_drop] at hj
 rw [Nat.add_assoc]
 exact h _ u hj
end
theorem tyI : RowTy 36 3 inC 1 8 := ⟨Tryz.underlying36, ⟨_, infoI, rfl⟩, by decide, lenI, fun x u hu => by rw [List.mem_singleton.1 hu]; rfl⟩
theorem tyT : RowTy 41 9 txC 1 16 := ⟨Tryz.underlying41, ⟨_, textInfo, rfl⟩, by decide, lenT, fun x u hu => by rw [List.mem_singleton.1 hu]; rfl⟩
end Go.Proofs.YtmjeacpoobbjjaaGreatDoor
