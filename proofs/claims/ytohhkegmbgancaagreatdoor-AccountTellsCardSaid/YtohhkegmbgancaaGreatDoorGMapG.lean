/- Helper text of this claim: lemmas and contracts that the proved statement rests on; no conditions of its own. -/
import Derived.Test.YtohhkegmbgancaaGreatDoorGCr5
namespace Go.Vc
set_option maxHeartbeats 1000000
open Go Go.Pw Go.RowKit
set_option linter.unusedVariables false
set_option linter.unusedSectionVars false
theorem zgm (a b : ByteArray) : (a == b) = decide (a = b) := by
 obtain ⟨a⟩ := a
 obtain ⟨b⟩ := b
 have e : ((ByteArray.mk a == ByteArray.mk b) : Bool) = (a == b) := rfl
 rw [e]
 by_cases h : a = b <;> simp [h]
abbrev GM (κ : Type) := List (κ × Value)
section
variable {κ : Type} [DecidableEq κ]
def GM.get : GM κ → κ → Option Value
 | [], _ => none
 | (s, v) :: r, k => if k = s then some v else GM.get r k
def GM.put : GM κ → κ → Value → GM κ
 | [], k, x => [(k, x)]
 | (s, v) :: r, k, x => if k = s then (s, x) :: r else (s, v) :: GM.put r k x
def GM.del : GM κ → κ → GM κ
 | [], _ => []
 | (s, v) :: r, k => if k = s then r else (s, v) :: GM.del r k
def GM.idx : GM κ → κ → Nat → Option (Nat × Value)
 | [], _, _ => none
 | (s, v) :: r, k, i => if k = s then some (i, v) else GM.idx r k (i + 1)
def entG (e : MapEntry) : Value × Value := (e.key, e.val)
def gmP (enc : κ → Value) (p : κ × Value) : Value × Value := (enc p.1, p.2)
structure KeyOk (P : Program) (kt : TypeId) (enc : κ → Value) : Prop where
 check : ∀ e k w, (Instr.checkKey e 10000 kt (enc k)).run P w = .ok () w
 find : ∀ w k (es : List MapEntry) (m : GM κ), es.map entG = m.map (gmP enc) → (Instr.findKey kt (enc k) es).run P w = .ok (m.idx k 0) w
 bits : ∀ k, Instr.sameBits 10000 (enc k) (enc k) = true
def GMap (enc : κ → Value) (w : World) (b : Nat) (m : GM κ) : Prop := ∃ es clock, w.heap[b]? = some (.map es clock) ∧ es.toList.map entG = m.map (gmP enc)
theorem GM.idx_get (k : κ) : ∀ (m : GM κ) (i : Nat), (m.idx k i).map (·.2) = m.get k
 | [], i => rfl
 | (s, v) :: r, i => by
  unfold GM.idx GM.get
  split
  ·rfl
  ·exact GM.idx_get k r (i + 1)
theorem GM.idx_none (k : κ) : ∀ (m : GM κ) (i : Nat), m.idx k i = none → m.get k = none ∧ (∀ x, m.put k x = m ++ [(k, x)]) ∧ m.del k = m
 | [], i, _ => ⟨rfl, fun _ => rfl, rfl⟩
 | (s, v) :: r, i, h => by
  unfold GM.idx at h
  split at h
  ·cases h
  ·rename_i hk
   obtain ⟨h1, h2, h3⟩ := GM.idx_none k r (i + 1) h
   exact ⟨by simp [GM.get, hk, h1], fun x => by simp [GM.put, hk, h2], by simp [GM.del, hk, h3]⟩
theorem GM.idx_some {enc : κ → Value} (k : κ) : ∀ (es : List MapEntry) (m : GM κ) (i j : Nat) (v : Value), es.map entG = m.map (gmP enc) → m.idx k i = some (j, v) →
  ∃ d, j = i + d ∧ d < es.length ∧ m.get k = some v ∧ (es[d]?).map (·.key) = some (enc k) ∧ (∀ x, (es.modify d fun e => { e with key := enc k, val := x }).map entG = (m.put k x).map (gmP enc)) ∧ (es.eraseIdx d).map entG = (m.del k).map (gmP enc)
 | [], m, i, j, v, h, hi => by
  have : m = [] := by cases m with | nil => rfl | cons a r => simp at h
  subst this; simp [GM.idx] at hi
 | e :: es, [], i, j, v, h, hi => by simp at h
 | e :: es, (s, x0) :: r, i, j, v, h, hi => by
  simp only [List.map_cons, List.cons.injEq] at h
  obtain ⟨h1, h2⟩ := h
  simp only [entG, gmP, Prod.mk.injEq] at h1
  obtain ⟨h3, h4⟩ := h1
  unfold GM.idx at hi
  split at hi
  ·rename_i hk
   subst hk
   simp only [Option.some.injEq, Prod.mk.injEq] at hi
   obtain ⟨rfl, rfl⟩ := hi
   refine ⟨0, by simp, by simp, by simp [GM.get], by simp [h3], fun x => ?_, ?_⟩
   ·simp only [List.modify_zero_cons, List.map_cons, GM.put, if_pos, h2]
    simp [entG, gmP]
   ·simp [GM.del, h2]
  ·rename_i hk
   obtain ⟨d, q1, q2, q3, q4, q5, q6⟩ := GM.idx_some k es r (i + 1) j v h2 hi
   refine ⟨d + 1, by omega, Nat.succ_lt_succ q2, by simp [GM.get, hk, q3], by simpa using q4, fun x => ?_, ?_⟩
   ·simp only [List.modify_succ_cons, List.map_cons, GM.put, if_neg hk, q5 x]
    simp [entG, gmP, h3, h4]
   ·simp only [List.eraseIdx_cons_succ, List.map_cons, GM.del, if_neg hk, q6]
    simp [entG, gmP, h3, h4]
theorem GM.get_put (k k' : κ) (x : Value) : ∀ (m : GM κ), (m.put k x).get k' = if k' = k then some x else m.get k'
 | [] => by simp [GM.put, GM.get]
 | (s, v) :: r => by
  unfold GM.put
  by_cases h : k = s
  ·subst h
   rw [if_pos rfl]
   simp only [GM.get]
   split <;> rfl
  ·rw [if_neg h]
   simp only [GM.get]
   by_cases h2 : k' = s
   ·rw [if_pos h2, if_pos h2, if_neg (fun e => h (by rw [← e, h2]))]
   ·rw [if_neg h2, if_neg h2, GM.get_put k k' x r]
variable {enc : κ → Value} {P : Program} {w : World} {b : Nat} {m : GM κ} {t kt et : TypeId} {K : Value → World → Prop}
theorem GMap.lt (h : GMap enc w b m) : b < w.heap.size := by
 obtain ⟨es, cl, hb, he⟩ := h
 rcases Nat.lt_or_ge b w.heap.size with h' | h'
 ·exact h'
 ·rw [Array.getElem?_eq_none h'] at hb; cases hb
theorem GMap.keep {w' : World} {c : Nat → Prop} (h : GMap enc w b m) (k : Kp w w' c) (hc : ¬ c b) : GMap enc w' b m := by
 have hlt := h.lt
 obtain ⟨es, cl, hb, he⟩ := h
 exact ⟨es, cl, (k.block b hlt hc).trans hb, he⟩
theorem GMap.new (w : World) : GMap enc (w.alloc (.map #[] 0)) w.heap.size ([] : GM κ) := ⟨#[], 0, heap_alloc_new w _, rfl⟩
theorem RunV.makeMap {r : Option Value} (hr : r = none) (k : K (.map (some w.heap.size)) (w.alloc (.map #[] 0))) : RunV P (Instr.makeMap t r) w K := by
 subst hr
 exact RunV.of (by simp [Instr.makeMap]) k
theorem RunV.lookG (ok : KeyOk P kt enc) (ht : P.underlying t = some (.map kt et)) {z : Value} (hz : (zeroValue et).run P w = .ok z w) (h : GMap enc w b m) (s : κ) {e : Value} (he : e = enc s) (k : K ((m.get s).getD z) w) :
  RunV P (Instr.lookup t (.map (some b)) e false) w K := by
 subst he
 obtain ⟨es, clock, hb, he⟩ := h
 refine ⟨_, w, ?_, k⟩
 have h1 := GM.idx_get s m 0
 cases hi : m.idx s 0 with
 | none =>
  rw [hi] at h1
  simp [Instr.lookup, zaG ht, getObj, Sem.run, hb, ok.check, ok.find w s es.toList m he, hi, hz, ← h1]
 | some jv =>
  obtain ⟨j, v⟩ := jv
  rw [hi] at h1
  simp [Instr.lookup, zaG ht, getObj, Sem.run, hb, ok.check, ok.find w s es.toList m he, hi, ← h1]
theorem RunV.lookG2 (ok : KeyOk P kt enc) (ht : P.underlying t = some (.map kt et)) {z : Value} (hz : (zeroValue et).run P w = .ok z w) (h : GMap enc w b m) (s : κ) {e : Value} (he : e = enc s) (k : K (.tuple #[(m.get s).getD z, .bool (m.get s).isSome]) w) :
  RunV P (Instr.lookup t (.map (some b)) e true) w K := by
 subst he
 obtain ⟨es, clock, hb, he⟩ := h
 refine ⟨_, w, ?_, k⟩
 have h1 := GM.idx_get s m 0
 cases hi : m.idx s 0 with
 | none =>
  rw [hi] at h1
  simp [Instr.lookup, zaG ht, getObj, Sem.run, hb, ok.check, ok.find w s es.toList m he, hi, hz, ← h1]
 | some jv =>
  obtain ⟨j, v⟩ := jv
  rw [hi] at h1
  simp [Instr.lookup, zaG ht, getObj, Sem.run, hb, ok.check, ok.find w s es.toList m he, hi, ← h1]
def setOG (w : World) (b : Nat) (o : Obj) : World := { w with heap := w.heap.set! b o }
theorem zhj (o : Obj) (hb : b < w.heap.size) : (setOG w b o).heap[b]? = some o := by
 simp [setOG, hb]
theorem zeN (o : Obj) : Kp w (setOG w b o) (one_ b) :=
 ⟨rfl, rfl, rfl, by simp [setOG], fun k hk hn => by
  have : b ≠ k := fun e => hn e.symm
  simp [setOG, this]⟩
theorem RunU.updG {K : World → Prop} (ok : KeyOk P kt enc) (ht : P.underlying t = some (.map kt et)) (h : GMap enc w b m) (s : κ) {e : Value} (he : e = enc s) (x : Value) (k : ∀ w', GMap enc w' b (m.put s x) → Kp w w' (one_ b) → K w') :
  RunU P (Instr.mapUpdate t (.map (some b)) e x) w K := by
 subst he
 have hlt := h.lt
 obtain ⟨es, clock, hb, he⟩ := h
 have hf := ok.find w s es.toList m he
 cases hi : m.idx s 0 with
 | none =>
  rw [hi] at hf
  obtain ⟨a1, a2, a3⟩ := GM.idx_none s m 0 hi
  refine ⟨setOG w b (.map (es.push { key := enc s, val := x, born := clock }) (clock + 1)), ?_, k _ ⟨_, _, zhj _ hlt, ?_⟩ (zeN _)⟩
  ·simp [Instr.mapUpdate, zaG ht, getObj, setObj, Sem.run, hb, ok.check, hf, setOG]
  ·simp [a2, he, entG, gmP]
 | some jv =>
  obtain ⟨j, v⟩ := jv
  rw [hi] at hf
  obtain ⟨d, q1, q2, q3, q4, q5, q6⟩ := GM.idx_some s es.toList m 0 j v he hi
  obtain rfl : j = d := by omega
  have e2 : ((es[j]?).map (·.key)).getD (enc s) = enc s := by
   rw [← Array.getElem?_toList, q4]; rfl
  refine ⟨setOG w b (.map (es.modify j fun e => { e with key := enc s, val := x }) clock), ?_, k _ ⟨_, _, zhj _ hlt, ?_⟩ (zeN _)⟩
  ·simp [Instr.mapUpdate, zaG ht, getObj, setObj, Sem.run, hb, ok.check, hf, setOG, e2, Instr.keyThatStays, ok.bits]
  ·rw [Array.toList_modify]; exact q5 x
theorem RunN.lenG {ty : TypeId} {cs : Array Bool} (ht : P.underlying t = some (.map kt et)) (h : GMap enc w b m) (k : K (.int .i64 (m.length : Nat)) w) : RunN P (builtin .len #[t] ty cs [.map (some b)].toArray) w K := by
 obtain ⟨es, clock, hb, he⟩ := h
 have hl : es.size = m.length := by
  have := congrArg List.length he
  simpa using this
 refine ⟨_, w, ?_, k⟩
 simp [builtin, Builtin.len_, zaG ht, getObj, Sem.run, hb, goInt, hl]
end
section
variable {P : Program} {kt : TypeId}
theorem zgJ {κ : Type} [DecidableEq κ] {enc : κ → Value} {u : TypeDesc} (hu : P.underlying kt = some u) (hs : ∀ a b, Instr.sameNow u (enc a) (enc b) = some (decide (a = b))) (w : World) (k : κ) (es : List MapEntry) (m : GM κ) (h : es.map entG = m.map (gmP enc)) :
  (Instr.findKey kt (enc k) es).run P w = .ok (m.idx k 0) w := by
 have key : ∀ (es : List MapEntry) (m : GM κ) (i : Nat), es.map entG = m.map (gmP enc) → Instr.findNow u (enc k) es i = some (m.idx k i) := by
  intro es
  induction es with
  | nil =>
   intro m i h
   have : m = [] := by cases m with | nil => rfl | cons a r => simp at h
   subst this; rfl
  | cons e es ih =>
   intro m i h
   cases m with
   | nil => simp at h
   | cons p r =>
    obtain ⟨s, v⟩ := p
    simp only [List.map_cons, List.cons.injEq] at h
    obtain ⟨h1, h2⟩ := h
    simp only [entG, gmP, Prod.mk.injEq] at h1
    obtain ⟨h3, h4⟩ := h1
    unfold Instr.findNow GM.idx
    rw [h3, hs]
    by_cases hk : k = s
    ·simp [hk, h4]
    ·simp [hk, ih r (i + 1) h2]
 unfold Instr.findKey
 simp [zaG hu, key es m 0 h]
theorem zlJ (hk : P.underlying kt = some (.int .i64)) : KeyOk P kt (Value.int .i64) where
 check e k w := by
  show (Instr.checkKey e (9999 + 1) kt _).run P w = _
  unfold Instr.checkKey
  simp [zaG hk]
 find := zgJ hk fun a b => by by_cases h : a = b <;> simp [Instr.sameNow, h]
 bits k := by simp [Instr.sameBits]
theorem zhz (hk : P.underlying kt = some .string) : KeyOk P kt Value.string where
 check e k w := by
  show (Instr.checkKey e (9999 + 1) kt _).run P w = _
  unfold Instr.checkKey
  simp [zaG hk]
 find := zgJ hk fun a b => by simp [Instr.sameNow, zgm]
 bits k := by simp [Instr.sameBits, zgm]
theorem zkw {κ : Type} [DecidableEq κ] {enc : κ → Value} {u : TypeDesc} (hu : P.underlying kt = some u) (hn : ∀ a b, Instr.sameNow u (enc a) (enc b) = none) (heq : ∀ w a b, (Op.equal kt (enc a) (enc b)).run P w = .ok (decide (a = b)) w)
  (hc : ∀ e k w, (Instr.checkKey e 10000 kt (enc k)).run P w = .ok () w) (hb : ∀ k, Instr.sameBits 10000 (enc k) (enc k) = true) : KeyOk P kt enc where
 check := hc
 bits := hb
 find w k es m h := by
  have ask : ∀ (es : List MapEntry) (m : GM κ) (i : Nat), es.map entG = m.map (gmP enc) → (Instr.findAsking kt (enc k) es i).run P w = .ok (m.idx k i) w := by
   intro es
   induction es with
   | nil =>
    intro m i h
    have : m = [] := by cases m with | nil => rfl | cons a r => simp at h
    subst this; rfl
   | cons e es ih =>
    intro m i h
    cases m with
    | nil => simp at h
    | cons p r =>
     obtain ⟨s, v⟩ := p
     simp only [List.map_cons, List.cons.injEq] at h
     obtain ⟨h1, h2⟩ := h
     simp only [entG, gmP, Prod.mk.injEq] at h1
     obtain ⟨h3, h4⟩ := h1
     unfold Instr.findAsking GM.idx
     rw [h3]
     by_cases hk : k = s
     ·simp [heq, hk, h4]
     ·simp [heq, hk, ih r (i + 1) h2]
  unfold Instr.findKey
  cases es with
  | nil =>
   have : m = [] := by cases m with | nil => rfl | cons a r => simp at h
   subst this
   simp [zaG hu, Instr.findNow, GM.idx]
  | cons e es =>
   cases m with
   | nil => simp at h
   | cons p r =>
    have h1 := h
    simp only [List.map_cons, List.cons.injEq] at h1
    have h3 : e.key = enc p.1 := by have := h1.1; simp only [entG, gmP, Prod.mk.injEq] at this; exact this.1
    have : Instr.findNow u (enc k) (e :: es) 0 = none := by unfold Instr.findNow; rw [h3, hn]
    simp [zaG hu, this, ask (e :: es) (p :: r) 0 h]
end
end Go.Vc
namespace Go.Proofs.YtohhkegmbgancaaGreatDoor
set_option maxHeartbeats 1000000
open Go.RowKit Go.Pw Go.Vc Go.Cs Go.Lib
set_option linter.unusedVariables false
set_option maxRecDepth 100000
def boxCells (b : Bx) : List Value := [.int .i64 b.id, .int .i64 b.up, .string (str b.name), .string (str b.role)]
abbrev RowB (w : World) (v : Value) (l : List Bx) : Prop := RowO w v boxCells l
theorem zda (a b : Int) : (a == b) = decide (a = b) := by by_cases h : a = b <;> simp [h]
def bx0 : Bx := ⟨0, 0, [], []⟩
section
variable {w : World}
theorem znO (b : Bx) (id : Int) : Calls Tryz.prog 99 #[.agg (boxCells b).toArray, .int .i64 id] w fun e w' => e = .returned (.int .i64 (cmp3 b.id id)) ∧ Kp w w' n_ := by
 refine zaa (args := [.agg #[.int .i64 b.id, .int .i64 b.up, .string (str b.name), .string (str b.role)], .int .i64 id]) Tryz.func99 rfl NL ?_; refine GW ?_
 have k0 : Kp w (w.alloc (.cells (boxCells b).toArray 74)) n_ := (Kp.refl _ _).alloc _
 have hA := zew (heap_alloc_new w (.cells (boxCells b).toArray 74))
 have c0 : (w.alloc (.cells (boxCells b).toArray 74)).cell? ⟨w.heap.size, 0, none⟩ = some (.int .i64 b.id) := hA 0 _ rfl
 have e1 : w.alloc (.cells #[.int .i64 b.id, .int .i64 b.up, .string (str b.name), .string (str b.role)] 74) = w.alloc (.cells (boxCells b).toArray 74) := rfl
 rw [e1]
 generalize w.alloc (.cells (boxCells b).toArray 74) = w1 at *
 refine KGO ?_
 refine CallS.of (Tryz.call100 _ _) (zoz b.id id) ?_
 rintro e w2 ⟨rfl, rfl⟩
 refine RT ?_
 exact ⟨rfl, k0⟩
theorem zlw (a b : Int) : cmp3 a b < 0 ↔ a < b := by
 unfold cmp3
 split
 ·simp_all
 ·split <;> simp <;> omega
theorem zoD (a b : Int) : cmp3 a b = 0 ↔ a = b := by
 unfold cmp3
 split
 ·simp; omega
 ·split
  ·simp; omega
  ·simp; omega
theorem zps {l : List Bx} {id : Int} {k : Nat} (hk : k ≤ l.length) (h1 : ∀ m (hm : m < l.length), m < k → l[m].id < id) (h2 : ∀ m (hm : m < l.length), k ≤ m → ¬ l[m].id < id) : idxL l id = k := by
 unfold idxL
 refine zaJ _ l k (fun x hx => ?_) hk fun x hx => ?_
 ·obtain ⟨i, hi, rfl⟩ := List.getElem_of_mem hx
  rw [List.length_take] at hi
  rw [List.getElem_take]
  simpa using h1 i (by omega) (by omega)
 ·obtain ⟨hk2, rfl⟩ := List.getElem?_eq_some_iff.1 hx
  simpa using h2 k hk2 (Nat.le_refl _)
theorem ziw {l : List Bx} (h : l.Pairwise fun a b => a.id < b.id) (id : Int) : hasId l id = decide (idxL l id < l.length ∧ (l.getD (idxL l id) bx0).id = id) := by
 obtain ⟨h1, h2⟩ := zht h id
 have hle : idxL l id ≤ l.length := (List.takeWhile_prefix _).length_le
 rw [Bool.eq_iff_iff, zar, decide_eq_true_eq]
 constructor
 ·rintro ⟨b, hb, rfl⟩
  rw [← List.take_append_drop (idxL l b.id) l] at hb
  rcases List.mem_append.1 hb with hb | hb
  ·have := h1 b hb; omega
  ·have hlt : idxL l b.id < l.length := by
    rcases Nat.lt_or_ge (idxL l b.id) l.length with q | q
    ·exact q
    ·rw [List.drop_eq_nil_of_le q] at hb; cases hb
   refine ⟨hlt, ?_⟩
   rw [List.getD_eq_getElem?_getD, List.getElem?_eq_getElem hlt]
   have hd : l.drop (idxL l b.id) = l[idxL l b.id] :: l.drop (idxL l b.id + 1) := List.drop_eq_getElem_cons hlt
   have hge := h2 l[idxL l b.id] (by rw [hd]; exact List.mem_cons_self)
   rw [hd] at hb
   rcases List.mem_cons.1 hb with e | hb
   ·rw [← e]; rfl
   ·have hp := h.sublist (List.drop_sublist (idxL l b.id) l)
    rw [hd] at hp
    have := (List.pairwise_cons.1 hp).1 b hb
    show l[idxL l b.id].id = b.id
    omega
 ·rintro ⟨hlt, he⟩
  rw [List.getD_eq_getElem?_getD, List.getElem?_eq_getElem hlt] at he
  exact ⟨l[idxL l id], List.getElem_mem hlt, he⟩
theorem zpO {v : Value} (l : List Bx) (id : Int) (hv : RowB w v l) (hl : l.length ≤ 1000000) : Calls Tryz.prog 98 #[v, .int .i64 id, .func (.func 99) #[] #[]] w fun e w' =>
  ∃ (k : Nat) (b : Bool), e = .returned (.tuple #[.int .i64 (k : Nat), .bool b]) ∧ k ≤ l.length ∧ ((l.Pairwise fun a b => a.id < b.id) → k = idxL l id ∧ b = hasId l id) ∧ Kp w w' n_ := by
 obtain ⟨a, cap, rfl, hr⟩ := hv
 refine zaa (args := [.slice a l.length cap, .int .i64 id, .func (.func 99) #[] #[]]) Tryz.func98 rfl NL ?_; refine GW ?_
 refine Loop.intro (ι := Nat × Nat) (fun p => [(0, .slice a l.length cap), (1, .int .i64 id), (2, .func (.func 99) #[] #[]), (8, .int .i64 (l.length : Nat)), (9, .int .i64 p.1), (10, .int .i64 p.2)])
  (fun p wr => Kp w wr n_ ∧ p.1 ≤ p.2 ∧ p.2 ≤ l.length ∧ ((l.Pairwise fun a b => a.id < b.id) → (∀ m (hm : m < l.length), m < p.1 → l[m].id < id) ∧ ∀ m (hm : m < l.length), p.2 ≤ m → ¬ l[m].id < id)) (fun p => p.2 - p.1) (0, l.length) ⟨rfl, rfl, rfl, rfl, rfl, rfl, trivial⟩
  ⟨Kp.refl _ _, by omega, Nat.le_refl _, fun _ => ⟨fun m _ hm => by omega, fun m h1 h2 => by omega⟩⟩ ?_
 rintro ⟨i, j⟩ g wr ⟨hK, hij, hj, hord⟩
 dsimp only at hij hj hord ⊢
 refine GW ?_
 by_cases hlt : i < j
 ·obtain ⟨gb, o, rfl, hgb, hat⟩ := hr (by omega)
  refine KGO ?_
  rw [zio i j (by omega)]
  have hm1 : i ≤ (i + j) / 2 := by omega
  have hm2 : (i + j) / 2 < j := by omega
  generalize (i + j) / 2 = h at *
  have hhl : h < l.length := by omega
  refine KGO ?_
  refine CallS.of (Tryz.call99 _ _) (znO l[h] id) ?_
  rintro e w1 ⟨rfl, k1⟩
  refine RT ?_
  by_cases hc : cmp3 l[h].id id < 0
  ·refine KGO ?_
   refine ⟨(h + 1, j), ⟨rfl, rfl, rfl, rfl, v_int (by simp), rfl, trivial⟩, ⟨hK.trans0 k1, by dsimp only; omega, hj, fun hp => ⟨fun m hm hmh => ?_, (hord hp).2⟩⟩, by dsimp only; omega⟩
   dsimp only at hmh
   have hlh := (zlw _ _).1 hc
   by_cases e : m = h
   ·subst e; exact hlh
   ·have := (List.pairwise_iff_getElem.1 hp) m h hm hhl (by omega); omega
  ·refine KGO ?_
   refine ⟨(i, h), ⟨rfl, rfl, rfl, rfl, rfl, rfl, trivial⟩, ⟨hK.trans0 k1, by dsimp only; omega, by dsimp only; omega, fun hp => ⟨(hord hp).1, fun m hm hmh => ?_⟩⟩, by dsimp only; omega⟩
   dsimp only at hmh
   have hlh : ¬ l[h].id < id := fun q => hc ((zlw _ _).2 q)
   by_cases e : m = h
   ·subst e; exact hlh
   ·have := (List.pairwise_iff_getElem.1 hp) h m hhl hm (by omega); omega
 ·have hji : j = i := by omega
  subst hji
  have hidx : ∀ hp : l.Pairwise fun a b => a.id < b.id, idxL l id = j := fun hp => zps hj (hord hp).1 (hord hp).2
  by_cases h17 : j < l.length
  ·obtain ⟨gb, o, rfl, hgb, hat⟩ := hr (by omega)
   refine KGO ?_
   refine CallS.of (Tryz.call99 _ _) (znO l[j] id) ?_
   rintro e w1 ⟨rfl, k1⟩
   refine RT ?_
   refine KGO ?_
   refine ⟨j, _, rfl, hj, fun hp => ⟨(hidx hp).symm, ?_⟩, hK.trans0 k1⟩
   rw [ziw hp, hidx hp, List.getD_eq_getElem?_getD, List.getElem?_eq_getElem h17]
   have e : (cmp3 l[j].id id == 0) = decide (l[j].id = id) := by
    rw [Bool.eq_iff_iff, beq_iff_eq, decide_eq_true_eq, zoD]
   rw [e]
   simp [h17]
  ·refine KGO ?_
   refine ⟨j, _, rfl, hj, fun hp => ⟨(hidx hp).symm, ?_⟩, hK⟩
   rw [ziw hp, hidx hp]
   simp [h17]
theorem zbM {v : Value} (l : List Bx) (id : Int) (hv : RowB w v l) (hl : l.length ≤ 1000000) : Calls Tryz.prog 43 #[v, .int .i64 id] w fun e w' =>
  ∃ (k : Nat) (b : Bool), e = .returned (.tuple #[.int .i64 (k : Nat), .bool b]) ∧ k ≤ l.length ∧ ((l.Pairwise fun a b => a.id < b.id) → k = idxL l id ∧ b = hasId l id) ∧ Kp w w' n_ := by
 have hv0 := hv
 obtain ⟨a, cap, rfl, hr⟩ := hv
 refine zaa (args := [.slice a l.length cap, .int .i64 id]) Tryz.func43 rfl NL ?_; refine GW ?_
 refine CallS.of (Tryz.call98 _ _) (zpO l id hv0 hl) ?_
 rintro e w1 ⟨k, b, rfl, h1, h2, k1⟩
 refine RT ?_
 exact ⟨k, b, rfl, h1, h2, k1⟩
theorem zlY {v : Value} (l : List Bx) (id : Int) (hv : RowB w v l) (hl : l.length ≤ 1000000) (ha : l.Pairwise fun a b => a.id < b.id) : Calls Tryz.prog 66 #[v, .int .i64 id] w fun e w' => e = .returned (.bool (decide (id = 0 ∨ hasId l id = true))) ∧ Kp w w' n_ := by
 have hv0 := hv
 obtain ⟨a, cap, rfl, hr⟩ := hv
 refine zaa (args := [.slice a l.length cap, .int .i64 id]) Tryz.func66 rfl NL ?_; refine GW ?_
 refine CallS.of (Tryz.call43 _ _) (zbM l id hv0 hl) ?_
 rintro e w1 ⟨k, b, rfl, h1, h2, k1⟩
 obtain ⟨rfl, rfl⟩ := h2 ha
 refine RT ?_
 cases hh : hasId l id with
 | true =>
  refine KGO ?_
  exact ⟨zad (by simp), k1⟩
 | false =>
  refine KGO ?_
  exact ⟨zad (by rw [Bool.eq_iff_iff]; simp), k1⟩
theorem zhx {l : List Bx} (h : l.Pairwise fun a b => a.id < b.id) {b : Bx} (hb : b ∈ l) : ∃ hk : idxL l b.id < l.length, l[idxL l b.id] = b := by
 have := (zar l b.id).2 ⟨b, hb, rfl⟩
 rw [ziw h, decide_eq_true_eq] at this
 obtain ⟨h1, h2⟩ := this
 refine ⟨h1, ?_⟩
 rw [List.getD_eq_getElem?_getD, List.getElem?_eq_getElem h1] at h2
 exact zcy h (List.getElem_mem h1) hb h2
theorem zeg {l : List Bx} (b : Int) : ∀ (n d : Nat) (id : Int), Dep l d id → d ≤ n → withinN l n id b = withinN l d id b
 | 0, d, id, h, hn => by
  obtain rfl : d = 0 := by omega
  rfl
 | n + 1, 0, id, h, hn => by
  have h0 : id = 0 := h
  simp [withinN, h0]
 | n + 1, d + 1, id, ⟨h0, u, hu, h⟩, hn => by
  unfold withinN
  rw [hu]
  dsimp only
  rw [zeg b n d u h (by omega)]
theorem zeX {v : Value} (l : List Bx) (id b : Int) (hv : RowB w v l) (hr : RightP l) {d : Nat} (hd : Dep l d id) : Calls Tryz.prog 144 #[v, .int .i64 id, .int .i64 b] w fun e w' => e = .returned (.bool (within l id b)) ∧ Kp w w' n_ := by
 have hv0 := hv
 have hlen := hr.len
 obtain ⟨a, cap, rfl, hr2⟩ := hv
 refine zaa (args := [.slice a l.length cap, .int .i64 id, .int .i64 b]) Tryz.func144 rfl NL ?_; refine GW ?_
 refine Loop.intro (ι := Int × Nat) (fun p => [(0, .slice a l.length cap), (1, .int .i64 p.1), (2, .int .i64 b)])
  (fun p wr => Kp w wr n_ ∧ Dep l p.2 p.1 ∧ within l id b = withinN l p.2 p.1 b) (fun p => p.2) (id, d) ⟨rfl, rfl, rfl, trivial⟩ ⟨Kp.refl _ _, hd, zeg b _ d id hd hd.len⟩ ?_
 rintro ⟨x, n⟩ g wr ⟨hK, hx, he⟩
 dsimp only at hx he ⊢
 refine GW ?_
 by_cases h0 : x = 0
 ·refine KGO ?_
  refine ⟨zad ?_, hK⟩
  rw [he]
  cases n with
  | zero => rw [withinN, zda]
  | succ n => rw [withinN, if_pos (.inl h0), zda]
 by_cases hb : x = b
 ·refine KGO ?_
  refine ⟨zad ?_, hK⟩
  rw [he]
  cases n with
  | zero => rw [withinN, zda]
  | succ n => rw [withinN, if_pos (.inr hb), zda]
 cases n with
 | zero => exact absurd hx h0
 | succ n =>
  obtain ⟨_, u, hu, hn⟩ := hx
  obtain ⟨c, hc, rfl, rfl⟩ := zbG hu
  obtain ⟨hk1, hk2⟩ := zhx hr.asc hc
  rw [withinN, if_neg (by simp [h0, hb]), hu] at he
  dsimp only at he
  refine KGO ?_
  refine CallS.of (Tryz.call43 _ _) (zbM l c.id (hv0.keep hK) (by omega)) ?_
  rintro e w1 ⟨k, q, rfl, h1, h2, k1⟩
  obtain ⟨rfl, rfl⟩ := h2 hr.asc
  obtain ⟨gb, o, rfl, hgb, hat⟩ := hr2 (by omega)
  have K1 := hK.trans0 k1
  refine RT ?_
  refine KGO ?_
  rw [hk2]
  exact ⟨(c.up, n), ⟨rfl, rfl, rfl, trivial⟩, ⟨K1, hn, he⟩, by dsimp only; omega⟩
theorem zbX {v : Value} (l : List Bx) (id : Int) (hv : RowB w v l) (hr : RightP l) {d : Nat} (hd : Dep l d id) : Calls Tryz.prog 67 #[v, .int .i64 id] w fun e w' => e = .returned (.int .i64 (d : Nat)) ∧ Kp w w' n_ := by
 have hv0 := hv
 have hlen := hr.len
 have hdl := hd.len
 obtain ⟨a, cap, rfl, hr2⟩ := hv
 refine zaa (args := [.slice a l.length cap, .int .i64 id]) Tryz.func67 rfl NL ?_; refine GW ?_
 refine Loop.intro (ι := Int × Nat × Nat) (fun p => [(0, .slice a l.length cap), (1, .int .i64 p.1), (5, .int .i64 (p.2.2 : Nat))])
  (fun p wr => Kp w wr n_ ∧ Dep l p.2.1 p.1 ∧ p.2.2 + p.2.1 = d) (fun p => p.2.1) (id, d, 0) ⟨rfl, rfl, rfl, trivial⟩ ⟨Kp.refl _ _, hd, by dsimp only; omega⟩ ?_
 rintro ⟨x, n, m⟩ g wr ⟨hK, hx, he⟩
 dsimp only at hx he ⊢
 refine GW ?_
 cases n with
 | zero =>
  have h0 : x = 0 := hx
  refine KGO ?_
  exact ⟨zaH (by omega), hK⟩
 | succ n =>
  obtain ⟨h0, u, hu, hn⟩ := hx
  obtain ⟨c, hc, rfl, rfl⟩ := zbG hu
  obtain ⟨hk1, hk2⟩ := zhx hr.asc hc
  refine KGO ?_
  refine CallS.of (Tryz.call43 _ _) (zbM l c.id (hv0.keep hK) (by omega)) ?_
  rintro e w1 ⟨k, q, rfl, h1, h2, k1⟩
  obtain ⟨rfl, rfl⟩ := h2 hr.asc
  obtain ⟨gb, o, rfl, hgb, hat⟩ := hr2 (by omega)
  have K1 := hK.trans0 k1
  refine RT ?_
  refine KGO ?_
  rw [hk2]
  exact ⟨(c.up, n, m + 1), ⟨rfl, rfl, v_int (by simp), trivial⟩, ⟨K1, hn, by dsimp only; omega⟩, by dsimp only; omega⟩
end
end Go.Proofs.YtohhkegmbgancaaGreatDoor
namespace Go.Cs
set_option maxHeartbeats 1000000
open Go.Lib
set_option linter.unusedVariables false
def badR (r : Nat) : Prop := r < 32 ∨ r = 127 ∨ r = 47
instance (r : Nat) : Decidable (badR r) := by unfold badR; infer_instance
theorem znz : ∀ c : Fin 128, (fineB (UInt8.ofNat c.val) = false ↔ badR c.val) := by decide +kernel
theorem zmm (b : UInt8) (h : 128 ≤ b.toNat) : fineB b = true := by
 unfold fineB
 rw [decide_eq_false (by omega), decide_eq_false (by omega), decide_eq_false (by omega)]; rfl
theorem ziP (c : Nat) (h : scal c) : (∃ b ∈ enc c, fineB b = false) ↔ badR c := by
 by_cases h1 : c < 128
 ·have : enc c = [UInt8.ofNat c] := by
   unfold enc encodeRune
   rw [encodeRuneZ_one (by omega) (by omega)]
   simp only [List.map_cons, List.map_nil, Int.toNat_natCast]
  rw [this]
  simpa using znz ⟨c, h1⟩
 ·constructor
  ·rintro ⟨b, hb, hf⟩
   exfalso
   have key : ∀ x ∈ enc c, 128 ≤ x.toNat := by
    unfold scal at h
    unfold enc encodeRune
    by_cases h2 : c ≤ 2047
    ·rw [encodeRuneZ_two (by omega) (by omega)]
     intro x hx
     simp only [List.map_cons, List.map_nil, List.mem_cons, List.not_mem_nil, or_false] at hx
     rcases hx with rfl | rfl <;> (rw [u8n _ (by omega)]; omega)
    by_cases h3 : c ≤ 65535
    ·rw [encodeRuneZ_three (by omega)]
     intro x hx
     simp only [List.map_cons, List.map_nil, List.mem_cons, List.not_mem_nil, or_false] at hx
     rcases hx with rfl | rfl | rfl <;> (rw [u8n _ (by omega)]; omega)
    ·rw [encodeRuneZ_four (by omega) (by omega)]
     intro x hx
     simp only [List.map_cons, List.map_nil, List.mem_cons, List.not_mem_nil, or_false] at hx
     rcases hx with rfl | rfl | rfl | rfl <;> (rw [u8n _ (by omega)]; omega)
   rw [zmm b (key b hb)] at hf; cases hf
  ·intro hb; unfold badR at hb; omega
theorem zjT (s : List UInt8) (h : validD s = true) : (∃ r ∈ runes s, badR r) ↔ ∃ b ∈ s, fineB b = false := by
 have he : encs (runes s) = s := zfb s h
 constructor
 ·rintro ⟨r, hr, hb⟩
  obtain ⟨b, hb1, hb2⟩ := (ziP r (zfS s r hr)).2 hb
  refine ⟨b, ?_, hb2⟩
  rw [← he]
  unfold encs
  exact List.mem_flatMap.2 ⟨r, hr, hb1⟩
 ·rintro ⟨b, hb, hf⟩
  rw [← he] at hb
  unfold encs at hb
  obtain ⟨r, hr, hb⟩ := List.mem_flatMap.1 hb
  exact ⟨r, hr, (ziP r (zfS s r hr)).1 ⟨b, hb, hf⟩⟩
theorem ziA (s : List UInt8) (h1 : 1 ≤ s.length) (h2 : s.length ≤ 100) (h3 : validD s = true) : namedB s = !decide (∃ r ∈ runes s, badR r) := by
 rw [Bool.eq_iff_iff, zbj]
 simp only [Bool.not_eq_true', decide_eq_false_iff_not]
 rw [zjT s h3]
 constructor
 ·rintro ⟨_, _, _, h⟩ ⟨b, hb, hf⟩
  rw [h b hb] at hf; cases hf
 ·intro h
  refine ⟨h1, h2, h3, fun b hb => ?_⟩
  cases hf : fineB b with
  | true => rfl
  | false => exact absurd ⟨b, hb, hf⟩ h
end Go.Cs
namespace Go.Proofs.YtohhkegmbgancaaGreatDoor
set_option maxHeartbeats 1000000
open Go.RowKit Go.Pw Go.Vc Go.Cs Go.Lib
set_option linter.unusedVariables false
set_option maxRecDepth 100000
section
variable {w : World}
theorem zpr (r : Nat) (hr : r ≤ 1114111) : Calls Tryz.prog 125 #[.int .i32 (r : Nat)] w fun e w' => e = .returned (.bool (decide (badR r))) ∧ w = w' := by
 refine zaa (args := [.int .i32 (r : Nat)]) Tryz.func125 rfl NL ?_; refine GW ?_
 by_cases h1 : r < 32
 ·refine KGO ?_
  exact ⟨zad (decide_eq_true (show badR r from .inl h1)).symm, rfl⟩
 by_cases h2 : r = 127
 ·refine KGO ?_
  exact ⟨zad (decide_eq_true (show badR r from .inr (.inl h2))).symm, rfl⟩
 refine KGO ?_
 refine ⟨zad ?_, rfl⟩
 have hb : badR r ↔ r = 47 := by unfold badR; omega
 rw [Bool.eq_iff_iff, beq_iff_eq, decide_eq_true_eq, hb]
 omega
theorem zns (s : ByteArray) (hs : s.size ≤ 100000000) : Calls Tryz.prog 191 #[.string s, .func (.func 125) #[] #[], .bool true] w fun e w' => ∃ z : Int, e = .returned (.int .i64 z) ∧ (0 ≤ z ↔ ∃ r ∈ runes (L s), badR r) ∧ Kp w w' n_ := by
 have hl := L_len s
 refine zaa (args := [.string s, .func (.func 125) #[] #[], .bool true]) Tryz.func191 rfl NL ?_; refine GW ?_
 refine RunV.rangeS Tryz.underlying9 ?_
 refine GW ?_
 have hi0 : (w.alloc (.stringIter s 0)).heap[w.heap.size]? = some (.stringIter s 0) := heap_alloc_new _ _
 have K1 : Kp w (w.alloc (.stringIter s 0)) n_ := (Kp.refl _ _).alloc _
 generalize w.alloc (.stringIter s 0) = w1 at *
 refine Loop.intro (ι := Nat) (fun i => [(0, .string s), (1, .func (.func 125) #[] #[]), (2, .bool true), (10, .pointer (some ⟨w.heap.size, 0, none⟩))])
  (fun n wr => Kp w wr n_ ∧ n ≤ s.size ∧ wr.heap[w.heap.size]? = some (.stringIter s n) ∧ ((∃ r ∈ runes (L s), badR r) ↔ ∃ r ∈ runes ((L s).drop n), badR r)) (fun n => s.size - n) 0 ⟨rfl, rfl, rfl, rfl, trivial⟩
  ⟨K1, Nat.zero_le _, hi0, Iff.rfl⟩ ?_
 rintro n g wr ⟨hK, hn, hi, he⟩
 refine GW ?_
 by_cases hlt : n < s.size
 ·refine RunV.nextS hi hlt ?_
  have hne : (L s).drop n ≠ [] := by rw [← L_from]; exact L_ne (by simp; omega)
  have hw := decodeL_width ((L s).drop n)
  have hle := decodeL_le _ hne
  have hru := decodeL_rune ((L s).drop n)
  rw [List.length_drop] at hle
  rw [zea _ hne, List.drop_drop] at he
  have hi2 : (setO wr w.heap.size (.stringIter s (n + (decodeL ((L s).drop n)).2))).heap[w.heap.size]? = some (.stringIter s (n + (decodeL ((L s).drop n)).2)) := zex _ (zbQ hi)
  have K2 : Kp w (setO wr w.heap.size (.stringIter s (n + (decodeL ((L s).drop n)).2))) n_ := hK.trans (zbI _) fun i hi h => by have h : i = w.heap.size := h; omega
  generalize setO wr w.heap.size (.stringIter s (n + (decodeL ((L s).drop n)).2)) = w2 at *
  generalize (decodeL ((L s).drop n)).2 = k at *
  generalize (decodeL ((L s).drop n)).1 = r at *
  refine KGO ?_
  refine CallS.of (Tryz.call125 _ _) (zpr (w := w2) r (by omega)) ?_
  rintro e w3 ⟨rfl, rfl⟩
  refine RT ?_
  by_cases hb : badR r
  ·rw [decide_eq_true hb]
   refine KGO ?_
   exact ⟨_, rfl, ⟨fun _ => he.2 ⟨r, by simp, hb⟩, fun _ => by omega⟩, K2⟩
  ·rw [decide_eq_false hb]
   refine KGO ?_
   refine ⟨n + k, ⟨rfl, rfl, rfl, rfl, trivial⟩, ⟨K2, by omega, hi2, he.trans ⟨?_, ?_⟩⟩, by dsimp only; omega⟩
   ·rintro ⟨x, hx, hxb⟩
    rcases List.mem_cons.1 hx with rfl | hx
    ·exact absurd hxb hb
    ·exact ⟨x, hx, hxb⟩
   ·rintro ⟨x, hx, hxb⟩
    exact ⟨x, List.mem_cons_of_mem _ hx, hxb⟩
 ·refine RunV.nextE hi hlt ?_
  refine KGO ?_
  refine ⟨_, rfl, ⟨fun h => by omega, fun h => ?_⟩, hK⟩
  rw [List.drop_eq_nil_of_le (by omega)] at he
  obtain ⟨r, hr, _⟩ := he.1 h
  cases hr
theorem zii (s : ByteArray) (hs : s.size ≤ 100000000) : Calls Tryz.prog 124 #[.string s, .func (.func 125) #[] #[]] w fun e w' => e = .returned (.bool (decide (∃ r ∈ runes (L s), badR r))) ∧ Kp w w' n_ := by
 have hi : ∀ w : World, Calls Tryz.prog 173 #[.string s, .func (.func 125) #[] #[]] w fun e w' => ∃ z : Int, e = .returned (.int .i64 z) ∧ (0 ≤ z ↔ ∃ r ∈ runes (L s), badR r) ∧ Kp w w' n_ := fun w => by
  refine zaa (args := [.string s, .func (.func 125) #[] #[]]) Tryz.func173 rfl NL ?_; refine GW ?_
  refine CallS.of (Tryz.call191 _ _) (zns s hs) ?_
  rintro e w1 ⟨z, rfl, hz, k1⟩
  refine RT ?_
  exact ⟨z, rfl, hz, k1⟩
 refine zaa (args := [.string s, .func (.func 125) #[] #[]]) Tryz.func124 rfl NL ?_; refine GW ?_
 refine CallS.of (Tryz.call173 _ _) (hi w) ?_
 rintro e w1 ⟨z, rfl, hz, k1⟩
 refine RT ?_
 refine ⟨zad ?_, k1⟩
 rw [Bool.eq_iff_iff, decide_eq_true_eq, decide_eq_true_eq]
 exact hz
theorem zeo (s : ByteArray) (hT : Tabs w) (hs : s.size ≤ 140737488355328) : Calls Tryz.prog 62 #[.string s] w fun e w' => e = .returned (.bool (namedB (L s))) ∧ Kp w w' n_ := by
 have hl := L_len s
 have hno : ∀ (h : ¬ (1 ≤ (L s).length ∧ (L s).length ≤ 100 ∧ validD (L s) = true)), namedB (L s) = false := fun h => by
  cases hn : namedB (L s) with
  | false => rfl
  | true =>
   have := (zbj (L s)).1 hn
   exact absurd ⟨this.1, this.2.1, this.2.2.1⟩ h
 refine zaa (args := [.string s]) Tryz.func62 rfl NL ?_; refine GW ?_
 by_cases h1 : s.size < 1
 ·refine KGO ?_
  exact ⟨zad (hno (by omega)).symm, Kp.refl _ _⟩
 by_cases h2 : 100 < s.size
 ·refine KGO ?_
  exact ⟨zad (hno (by omega)).symm, Kp.refl _ _⟩
 refine KGO ?_
 refine CallS.of (Tryz.call123 _ _) (zmM s hT (by omega)) ?_
 rintro e w1 ⟨rfl, k1⟩
 refine RT ?_
 by_cases h3 : validD (L s) = true
 ·rw [h3]
  refine KGO ?_
  refine CallS.of (Tryz.call124 _ _) (zii (w := w1) s (by omega)) ?_
  rintro e w2 ⟨rfl, k2⟩
  refine RT ?_
  exact ⟨zad (ziA (L s) (by omega) (by omega) h3).symm, k1.trans0 k2⟩
 ·rw [show validD (L s) = false by simpa using h3]
  refine KGO ?_
  exact ⟨zad (hno fun h => h3 h.2.2).symm, k1⟩
def RolesTab (w : World) : Prop := ∃ b o c, w.cell? ⟨0, 0, none⟩ = some (.slice (some ⟨b, o, none⟩) 7 c) ∧ b < w.heap.size ∧ At w b o (rolesL.map sv)
theorem RolesTab.keep {w' : World} (h : RolesTab w) (k : Kp w w' n_) : RolesTab w' := by
 obtain ⟨b, o, c, h1, h2, h3⟩ := h
 exact ⟨b, o, c, zak h1 k, Nat.lt_of_lt_of_le h2 k.size, zac h3 k⟩
theorem zll {v : Value} (l : List (List UInt8)) (s : List UInt8) (hv : RowO w v (fun x => [sv x]) l) (hl : l.length ≤ 8796093022208) : Calls Tryz.prog 126 #[v, .string (str s)] w fun e w' => ∃ z : Int, e = .returned (.int .i64 z) ∧ (0 ≤ z ↔ s ∈ l) ∧ Kp w w' n_ := by
 obtain ⟨a, cap, rfl, hr⟩ := hv
 refine zaa (args := [.slice a l.length cap, .string (str s)]) Tryz.func126 rfl NL ?_; refine GW ?_
 refine Loop.intro (ι := Nat) (fun i => [(0, .slice a l.length cap), (1, .string (str s)), (7, .int .i64 (l.length : Nat)), (8, .int .i64 (i : Nat))])
  (fun i wr => Kp w wr n_ ∧ i ≤ l.length ∧ (s ∈ l ↔ s ∈ l.drop i)) (fun i => l.length - i) 0 ⟨rfl, rfl, rfl, rfl, trivial⟩ ⟨Kp.refl _ _, Nat.zero_le _, Iff.rfl⟩ ?_
 rintro i g wr ⟨hK, hi, he⟩
 refine GW ?_
 by_cases hlt : i < l.length
 ·obtain ⟨gb, o, rfl, hgb, hat⟩ := hr (by omega)
  have hd := List.drop_eq_getElem_cons hlt
  have c0 : w.cell? ⟨gb, o + i, none⟩ = some (.string (str l[i])) := zec hat (fun _ => rfl) hlt 0 _ rfl |> fun h => by simpa [sv] using h
  generalize l[i] = x at *
  refine KGO ?_
  by_cases hx : s = x
  ·have hxx : decide (str s = str x) = true := by simp [hx]
   refine KGO ?_
   exact ⟨_, rfl, ⟨fun _ => he.2 (by rw [hd, hx]; simp), fun _ => by omega⟩, hK⟩
  ·have hxx : decide (str s = str x) = false := by simp [zcU, hx]
   refine KGO ?_
   refine ⟨i + 1, ⟨rfl, rfl, rfl, v_int (by simp), trivial⟩, ⟨hK, by omega, ?_⟩, by dsimp only; omega⟩
   rw [he, hd]
   simp [hx]
 ·refine KGO ?_
  refine ⟨_, rfl, ⟨fun h => by omega, fun h => ?_⟩, hK⟩
  rw [he, List.drop_eq_nil_of_le (by omega)] at h
  cases h
theorem zdt {v : Value} (l : List (List UInt8)) (s : List UInt8) (hv : RowO w v (fun x => [sv x]) l) (hl : l.length ≤ 8796093022208) : Calls Tryz.prog 63 #[v, .string (str s)] w fun e w' => e = .returned (.bool (decide (s ∈ l))) ∧ Kp w w' n_ := by
 have hv0 := hv
 obtain ⟨a, cap, rfl, hr⟩ := hv
 refine zaa (args := [.slice a l.length cap, .string (str s)]) Tryz.func63 rfl NL ?_; refine GW ?_
 refine CallS.of (Tryz.call126 _ _) (zll l s hv0 hl) ?_
 rintro e w1 ⟨z, rfl, hz, k1⟩
 refine RT ?_
 refine ⟨zad ?_, k1⟩
 rw [Bool.eq_iff_iff, decide_eq_true_eq, decide_eq_true_eq]
 exact hz
end
end Go.Proofs.YtohhkegmbgancaaGreatDoor
