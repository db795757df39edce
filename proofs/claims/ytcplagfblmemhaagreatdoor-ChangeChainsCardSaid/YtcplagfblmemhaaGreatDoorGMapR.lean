/- Helper text of this claim: lemmas and contracts that the proved statement rests on; no conditions of its own. -/
import Derived.Test.YtcplagfblmemhaaGreatDoorCx5
namespace Go.Vc
set_option linter.unusedVariables false
open Go Go.Pw Go.RowKit
set_option linter.unusedVariables false
set_option linter.unusedSectionVars false
section
variable {κ : Type} [DecidableEq κ] {enc : κ → Value} {P : Program} {w : World} {b r : Nat} {m left : GM κ} {t kt et : TypeId} {K : Value → World → Prop}
def GMapO (enc : κ → Value) (w : World) (b : Nat) (m : GM κ) : Prop := ∃ es clock, w.heap[b]? = some (.map es clock) ∧ es.toList.map entG = m.map (gmP enc) ∧ (es.toList.map (·.born)).Nodup ∧ ∀ e ∈ es.toList, e.born < clock
theorem GMapO.g (h : GMapO enc w b m) : GMap enc w b m := by obtain ⟨es, c, h1, h2, _⟩ := h; exact ⟨es, c, h1, h2⟩
theorem GMapO.keep {w' : World} {c : Nat → Prop} (h : GMapO enc w b m) (k : Kp w w' c) (hc : ¬ c b) : GMapO enc w' b m := by
 have hlt := h.g.lt
 obtain ⟨es, cl, hb, he⟩ := h
 exact ⟨es, cl, (k.block b hlt hc).trans hb, he⟩
theorem GMapO.new (w : World) : GMapO enc (w.alloc (.map #[] 0)) w.heap.size ([] : GM κ) := ⟨#[], 0, heap_alloc_new w _, rfl, List.nodup_nil, fun _ h => by cases h⟩
theorem zfa {es : List MapEntry} {d : Nat} {f : MapEntry → MapEntry} (hf : ∀ e, (f e).born = e.born) : (es.modify d f).map (·.born) = es.map (·.born) := by
 induction es generalizing d with
 | nil => simp
 | cons e es ih => cases d with
  | zero => simp [hf]
  | succ d => simp [ih]
theorem RunU.updGO {K : World → Prop} (ok : KeyOk P kt enc) (ht : P.underlying t = some (.map kt et)) (h : GMapO enc w b m) (s : κ) {e : Value} (he : e = enc s) (x : Value) (k : ∀ w', GMapO enc w' b (m.put s x) → Kp w w' (one_ b) → K w') :
  RunU P (Instr.mapUpdate t (.map (some b)) e x) w K := by
 subst he
 have hlt := h.g.lt
 obtain ⟨es, clock, hb, he, hnd, hlc⟩ := h
 cases hi : m.idx s 0 with
 | none =>
  obtain ⟨_, h2, _⟩ := GM.idx_none s m 0 hi
  refine ⟨_, ?_, k (setOG w b (.map (es.push { key := enc s, val := x, born := clock }) (clock + 1))) ⟨_, _, zcm _ hlt, ?_, ?_, ?_⟩ (zbU _)⟩
  ·simp [Instr.mapUpdate, zaA ht, getObj, setObj, Sem.run, hb, ok.check, ok.find w s es.toList m he, hi, setOG]
  ·rw [h2 x]; simp [he, entG, gmP]
  ·simp only [Array.toList_push, List.map_append, List.map_cons, List.map_nil]
   refine List.nodup_append.2 ⟨hnd, by simp, ?_⟩
   intro a ha c hc e
   simp only [List.mem_singleton] at hc
   obtain ⟨e', h1, h2⟩ := List.mem_map.1 ha
   have := hlc e' h1
   omega
  ·intro e' h'
   simp only [Array.toList_push, List.mem_append, List.mem_singleton] at h'
   rcases h' with h' | rfl
   ·have := hlc e' h'; omega
   ·exact Nat.lt_succ_self _
 | some jv =>
  obtain ⟨j, v⟩ := jv
  obtain ⟨d, rfl, hd, _, hkey, hmod, _⟩ := GM.idx_some s es.toList m 0 j v he hi
  refine ⟨_, ?_, k (setOG w b (.map (es.modify d fun e => { e with key := enc s, val := x }) clock)) ⟨_, _, zcm _ hlt, ?_, ?_, ?_⟩ (zbU _)⟩
  ·have hk2 : ((es[d]?).map (·.key)).getD (enc s) = enc s := by
    rw [show es[d]? = es.toList[d]? from by simp, hkey]; rfl
   simp only [Instr.mapUpdate, Sem.run_bind, zaA ht, Result.andThen_ok, getObj, Sem.run, hb, ok.check, ok.find w s es.toList m he, hi]
   simp [Instr.keyThatStays, hk2, ok.bits, setObj, Sem.run, setOG, hb]
  ·rw [Array.toList_modify]; exact hmod x
  ·rw [Array.toList_modify, zfa (f := fun e => { e with key := enc s, val := x }) (fun _ => rfl)]; exact hnd
  ·intro e' h'
   rw [Array.toList_modify] at h'
   have : e'.born ∈ (es.toList.modify d fun e => { e with key := enc s, val := x }).map (·.born) := List.mem_map_of_mem h'
   rw [zfa (f := fun e => { e with key := enc s, val := x }) (fun _ => rfl)] at this
   obtain ⟨e2, h1, h2⟩ := List.mem_map.1 this
   rw [← h2]; exact hlc e2 h1
def GRange (enc : κ → Value) (w : World) (b r : Nat) (left : GM κ) : Prop := ∃ es clock seen, w.heap[b]? = some (.map es clock) ∧ w.heap[r]? = some (.mapIter (some b) clock seen clock) ∧ (es.toList.map (·.born)).Nodup ∧ (∀ e ∈ es.toList, e.born < clock) ∧
 (es.toList.filter fun e => !seen.contains e.born).map entG = left.map (gmP enc)
theorem GRange.lt (h : GRange enc w b r left) : b < w.heap.size ∧ r < w.heap.size := by
 obtain ⟨es, c, s, h1, h2, _⟩ := h
 exact ⟨(Array.getElem?_eq_some_iff.1 h1).1, (Array.getElem?_eq_some_iff.1 h2).1⟩
theorem GRange.keep {w' : World} {c : Nat → Prop} (h : GRange enc w b r left) (k : Kp w w' c) (hb : ¬ c b) (hr : ¬ c r) : GRange enc w' b r left := by
 have hlt := h.lt
 obtain ⟨es, cl, s, h1, h2, h3⟩ := h
 exact ⟨es, cl, s, (k.block b hlt.1 hb).trans h1, (k.block r hlt.2 hr).trans h2, h3⟩
theorem RunV.rangeG (ht : P.underlying t = some (.map kt et)) (h : GMapO enc w b m) (k : ∀ w', GRange enc w' b w.heap.size m → Kp w w' n_ → w'.heap.size = w.heap.size + 1 → K (.pointer (some ⟨w.heap.size, 0, none⟩)) w') : RunV P (Instr.range t (.map (some b))) w K := by
 have hlt := h.g.lt
 obtain ⟨es, clock, hb, he, hnd, hlc⟩ := h
 refine ⟨_, w.alloc (.mapIter (some b) clock #[] clock), ?_, k _ ⟨es, clock, #[], (Below.heap_alloc _ _ _ hlt).trans hb, heap_alloc_new w _, hnd, hlc, ?_⟩ ((Kp.refl _ _).alloc _) (by simp)⟩
 ·simp only [Instr.range, Sem.run_bind, zaA ht, Result.andThen_ok, getObj, Sem.run, hb, Sem.run_pure]
  rfl
 ·rw [List.filter_eq_self.2 (fun x _ => by simp)]; exact he
theorem ziv {es : List MapEntry} {seen : Array Nat} {pre post : List MapEntry} {e : MapEntry} (hnd : (es.map (·.born)).Nodup) (h : (es.filter fun e => !seen.contains e.born) = pre ++ e :: post) :
  (es.filter fun e' => !(seen.push e.born).contains e'.born) = pre ++ post := by
 have h1 : (es.filter fun e' => !(seen.push e.born).contains e'.born) = (es.filter fun e => !seen.contains e.born).filter fun e' => !decide (e'.born = e.born) := by
  rw [List.filter_filter]
  refine List.filter_congr fun x _ => ?_
  simp only [Array.contains_push, Bool.not_or]
  rw [Bool.and_comm]
  congr 1
 rw [h1, h]
 have hnd2 : ((pre ++ e :: post).map (·.born)).Nodup := by
  rw [← h]; exact hnd.sublist (List.Sublist.map _ List.filter_sublist)
 simp only [List.map_append, List.map_cons, List.nodup_append, List.nodup_cons] at hnd2
 obtain ⟨_, ⟨hp, _⟩, hd⟩ := hnd2
 simp only [List.filter_append, List.filter_cons, decide_true, Bool.not_true]
 have f1 : pre.filter (fun e' => !decide (e'.born = e.born)) = pre := List.filter_eq_self.2 fun x hx => by
  have := hd x.born (List.mem_map_of_mem hx) e.born List.mem_cons_self
  simpa using this
 have f2 : post.filter (fun e' => !decide (e'.born = e.born)) = post := List.filter_eq_self.2 fun x hx => by
  have : x.born ≠ e.born := fun h => hp (h ▸ List.mem_map_of_mem hx)
  simpa using this
 rw [f1, f2]; rfl
theorem zla {es : List MapEntry} {e : MapEntry} (hnd : (es.map (·.born)).Nodup) (he : e ∈ es) : es.find? (fun x => x.born == e.born) = some e := by
 induction es with
 | nil => cases he
 | cons a l ih =>
  rw [List.map_cons, List.nodup_cons] at hnd
  rw [List.find?_cons]
  by_cases h : a.born = e.born
  ·have hae : a = e := by
    rcases List.mem_cons.1 he with rfl | h2
    ·rfl
    ·exact (hnd.1 (h ▸ List.mem_map_of_mem h2)).elim
   subst hae; simp
  ·have : (a.born == e.born) = false := by simp [h]
   rw [this]
   rcases List.mem_cons.1 he with rfl | h2
   ·exact (h rfl).elim
   ·exact ih hnd.2 h2
theorem zkI {n : Nat} (hn : 0 < n) (w : World) : ∃ i w1, (choose (.mapNext n)).run P w = .ok i w1 ∧ i < n ∧ w1.heap = w.heap ∧ Kp w w1 n_ := by
 by_cases h : n ≤ 1
 ·exact ⟨0, w, by simp [Question.forced, h], hn, rfl, Kp.refl _ _⟩
 ·exact ⟨w.tape w.drawn (.mapNext n) % n, w.drew, by simp [Question.forced, h, Question.cut], Nat.mod_lt _ hn, rfl, (Kp.refl _ _).drew⟩
theorem RunV.nextG {ty : TypeId} (h : GRange enc w b r left)
  (over : left = [] → ∀ w', Kp w w' n_ → w'.heap.size = w.heap.size → K (.tuple #[.bool false]) w')
  (more : ∀ pre p post w', left = pre ++ p :: post → GRange enc w' b r (pre ++ post) → Kp w w' (one_ r) → w'.heap.size = w.heap.size → (Instr.entry (.pointer (some ⟨r, 0, none⟩))).run P w' = .ok (.tuple #[enc p.1, p.2]) w' → K (.tuple #[.bool true, enc p.1, p.2]) w') : RunV P (Instr.next (.pointer (some ⟨r, 0, none⟩)) false ty) w K := by
 obtain ⟨es, clock, seen, hb, hr, hnd, hlc, hl⟩ := h
 have hrlt : r < w.heap.size := (Array.getElem?_eq_some_iff.1 hr).1
 have hblt : b < w.heap.size := (Array.getElem?_eq_some_iff.1 hb).1
 have hne : b ≠ r := fun e => by subst e; rw [hb] at hr; cases hr
 have hall : (!seen.isEmpty && !es.isEmpty && es.all (fun e => decide (e.born ≥ clock))) = false := by
  cases hes : es.toList with
  | nil =>
   have : es = #[] := by apply Array.ext'; simpa using hes
   subst this; simp
  | cons e l =>
   have h1 := hlc e (by rw [hes]; exact List.mem_cons_self)
   have : es.all (fun e => decide (e.born ≥ clock)) = false := by
    rw [← Array.all_toList, hes]
    simp only [List.all_cons]
    rw [show decide (e.born ≥ clock) = false from by simp; omega]
    rfl
   rw [this]; simp
 have hold : (es.filter fun e => !seen.contains e.born).filter (fun e => decide (e.born < clock)) = es.filter fun e => !seen.contains e.born := by
  apply Array.ext'
  simp only [Array.toList_filter]
  exact List.filter_eq_self.2 fun x hx => by simpa using hlc x (List.mem_filter.1 hx).1
 have hnew : (es.filter fun e => !seen.contains e.born).filter (fun e => decide (e.born ≥ clock)) = #[] := by
  apply Array.ext'
  simp only [Array.toList_filter]
  exact List.filter_eq_nil_iff.2 fun x hx => by have := hlc x (List.mem_filter.1 hx).1; simp; omega
 obtain ⟨old, hO⟩ : ∃ old, (es.filter fun e => !seen.contains e.born) = old := ⟨_, rfl⟩
 have hOl : old.toList = es.toList.filter fun e => !seen.contains e.born := by rw [← hO]; simp
 rw [← hOl] at hl
 rw [hO] at hold hnew
 cases hcase : old.toList with
 | nil =>
  have he : old = #[] := by apply Array.ext'; simpa using hcase
  have hle : left = [] := by rw [hcase] at hl; cases left with | nil => rfl | cons a l => simp at hl
  refine ⟨_, w, ?_, over hle w (Kp.refl _ _) rfl⟩
  simp only [Instr.next, Sem.run_bind, getObj, Sem.run, hr, Result.andThen_ok, hb, hall, Bool.false_eq_true, if_false, hO, hold, hnew]
  rw [he]
  simp [Question.forced]
 | cons e0 l0 =>
  have hpos : 0 < old.size := by rw [← Array.length_toList, hcase]; simp
  obtain ⟨i, w1, hch, hi, hh, hk⟩ := zkI (P := P) hpos w
  have hil : i < old.toList.length := by simpa using hi
  have hsplit : old.toList = old.toList.take i ++ old[i] :: old.toList.drop (i + 1) := by
   rw [show old[i] = old.toList[i] from by simp, ← List.drop_eq_getElem_cons hil, List.take_append_drop]
  have hlen : left.length = old.toList.length := by have := congrArg List.length hl; simpa using this.symm
  have hill : i < left.length := by omega
  have hls : left = left.take i ++ left[i]'hill :: left.drop (i + 1) := by rw [← List.drop_eq_getElem_cons hill, List.take_append_drop]
  have hent : entG old[i] = gmP enc (left[i]'hill) := by
   have e1 : (old.toList.map entG)[i]? = (left.map (gmP enc))[i]? := by rw [hl]
   rw [List.getElem?_map, List.getElem?_map, List.getElem?_eq_getElem hil, List.getElem?_eq_getElem hill] at e1
   simpa using e1
  simp only [entG, gmP, Prod.mk.injEq] at hent
  refine ⟨_, setOG w1 r (.mapIter (some b) clock (seen.push old[i].born) clock), ?_, more _ _ _ _ hls ⟨es, clock, seen.push old[i].born, ?_, ?_, hnd, hlc, ?_⟩ ?_ ?_ ?_⟩
  ·simp only [Instr.next, Sem.run_bind, getObj, Sem.run, hr, Result.andThen_ok, hb, hall]
   have hne0 : old.isEmpty = false := by simp only [Array.isEmpty, decide_eq_false_iff_not]; omega
   simp only [hO, hold, hnew, hne0, Array.append_empty, Array.size_map, Bool.false_eq_true, if_false, Array.empty_append, Sem.run_bind, Result.andThen_ok, hch]
   simp only [Array.getElem?_map, Array.getElem?_eq_getElem hi, Option.map_some, Sem.run_bind, setObj, Sem.run, Sem.run_pure, ← hent.1, ← hent.2]
   simp [setOG, hh, hr]
  ·rw [← hb, ← hh]; simp [setOG, hne.symm]
  ·exact zcm _ (by rw [hh]; exact hrlt)
  ·rw [ziv hnd (pre := old.toList.take i) (post := old.toList.drop (i + 1)) (by rw [← hOl]; exact hsplit)]
   rw [List.map_append, List.map_append, List.map_take, List.map_take, List.map_drop, List.map_drop, hl]
  ·exact (hk.of_none (c := one_ r)).trans' (zbU _)
  ·simp [setOG, hh]
  ·have h1 : (setOG w1 r (.mapIter (some b) clock (seen.push old[i].born) clock)).heap[r]? = some (.mapIter (some b) clock (seen.push old[i].born) clock) := zcm _ (by rw [hh]; exact hrlt)
   have h2 : (setOG w1 r (.mapIter (some b) clock (seen.push old[i].born) clock)).heap[b]? = some (.map es clock) := by rw [← hb, ← hh]; simp [setOG, hne.symm]
   have hmem : old[i] ∈ es.toList := by
    have : old[i] ∈ old.toList := by rw [show old[i] = old.toList[i] from by simp]; exact List.getElem_mem hil
    rw [hOl] at this; exact (List.mem_filter.1 this).1
   have hf := zla hnd hmem
   have hf2 : es.find? (fun x => x.born == old[i].born) = some old[i] := by rw [← hf, ← Array.find?_toList]
   simp only [Instr.entry, Sem.run_bind, getObj, Sem.run, h1, Result.andThen_ok, Array.back?_push, h2, bne_self_eq_false, Bool.false_eq_true, if_false, hf2, Sem.run_pure, hent.1, hent.2]
end
end Go.Vc
namespace Go.Proofs.YtcplagfblmemhaaGreatDoor
set_option linter.unusedVariables false
open Go.Shelf Go.RowKit Go.Pw Go.Vc Go.Cs Go.Lib Go.Cd Go.Cx
set_option linter.unusedVariables false
set_option maxRecDepth 100000
def thC (p : Key) : List Value := [.int .i64 p.1, .int .i64 p.2]
def encTh (p : Key) : Value := .agg (thC p).toArray
def ftC (p : Bool × Bool) : List Value := [.bool p.1, .bool p.2]
def encFt (p : Bool × Bool) : Value := .agg (ftC p).toArray
theorem thFields : ∃ a b, (Tryz.prog.fieldsOf 81).toList = [a, b] ∧ a.name ≠ "_" ∧ b.name ≠ "_" ∧ a.type = 3 ∧ b.type = 3 ∧ a.offset = 0 ∧ b.offset = 1 :=
 ⟨_, _, rfl, by decide, by decide, rfl, rfl, rfl, rfl⟩
theorem ftFields : ∃ a b, (Tryz.prog.fieldsOf 83).toList = [a, b] ∧ a.name ≠ "_" ∧ b.name ≠ "_" ∧ a.type = 4 ∧ b.type = 4 ∧ a.offset = 0 ∧ b.offset = 1 :=
 ⟨_, _, rfl, by decide, by decide, rfl, rfl, rfl, rfl⟩
theorem eq_th (x y : Key) (w : World) : (Op.equalIn (9999 + 1) 81 (encTh x) (encTh y)).run Tryz.prog w = .ok (decide (x = y)) w := by
 unfold encTh
 rw [run_equalIn_agg w 9999 81 _ _ (by rfl) (by kernel_rfl)]
 obtain ⟨a, b, hf, na, nb, ta, tb, oa, ob⟩ := thFields
 rw [hf]
 simp only [Op.eqFields, na, nb, ne_eq, not_false_eq_true, if_true, ta, tb, oa, ob]
 have p0 : (part 3 (thC x).toArray 0).run Tryz.prog w = .ok (.int .i64 x.1) w := by rfl
 have p1 : (part 3 (thC x).toArray 1).run Tryz.prog w = .ok (.int .i64 x.2) w := by rfl
 have q0 : (part 3 (thC y).toArray 0).run Tryz.prog w = .ok (.int .i64 y.1) w := by rfl
 have q1 : (part 3 (thC y).toArray 1).run Tryz.prog w = .ok (.int .i64 y.2) w := by rfl
 have i1 (a b : Int) : (Op.equalIn (9998 + 1) 3 (.int .i64 a) (.int .i64 b)).run Tryz.prog w = .ok (a == b) w := run_equalIn_int w 9998 3 .i64 .i64 a b (by rfl)
 simp only [Sem.run_bind, Sem.run_ite, p0, p1, q0, q1, i1, Result.andThen_ok]
 obtain ⟨x1, x2⟩ := x
 obtain ⟨y1, y2⟩ := y
 dsimp only
 by_cases h1 : x1 = y1 <;> by_cases h2 : x2 = y2 <;> simp [h1, h2]
theorem eqBool (w : World) (a b : Bool) : (Op.equalIn (9998 + 1) 4 (.bool a) (.bool b)).run Tryz.prog w = .ok (a == b) w := by rfl
theorem eq_ft (x y : Bool × Bool) (w : World) : (Op.equalIn (9999 + 1) 83 (encFt x) (encFt y)).run Tryz.prog w = .ok (decide (x = y)) w := by
 unfold encFt
 rw [run_equalIn_agg w 9999 83 _ _ (by rfl) (by kernel_rfl)]
 obtain ⟨a, b, hf, na, nb, ta, tb, oa, ob⟩ := ftFields
 rw [hf]
 simp only [Op.eqFields, na, nb, ne_eq, not_false_eq_true, if_true, ta, tb, oa, ob]
 have p0 : (part 4 (ftC x).toArray 0).run Tryz.prog w = .ok (.bool x.1) w := by rfl
 have p1 : (part 4 (ftC x).toArray 1).run Tryz.prog w = .ok (.bool x.2) w := by rfl
 have q0 : (part 4 (ftC y).toArray 0).run Tryz.prog w = .ok (.bool y.1) w := by rfl
 have q1 : (part 4 (ftC y).toArray 1).run Tryz.prog w = .ok (.bool y.2) w := by rfl
 simp only [Sem.run_bind, Sem.run_ite, p0, p1, q0, q1, eqBool w, Result.andThen_ok]
 obtain ⟨x1, x2⟩ := x
 obtain ⟨y1, y2⟩ := y
 cases x1 <;> cases x2 <;> cases y1 <;> cases y2 <;> rfl
theorem keyTh : KeyOk Tryz.prog 81 encTh := zhV Tryz.underlying81 (fun _ _ => rfl) (fun w a b => eq_th a b w) (fun e k w => by
  show (Instr.checkKey e (9999 + 1) 81 (.agg (thC k).toArray)).run Tryz.prog w = _
  have p0 : (part 3 (thC k).toArray 0).run Tryz.prog w = .ok (.int .i64 k.1) w := by rfl
  have p1 : (part 3 (thC k).toArray 1).run Tryz.prog w = .ok (.int .i64 k.2) w := by rfl
  have c0 : ∀ z, (Instr.checkKey e 9999 3 (.int .i64 z)).run Tryz.prog w = .ok () w := fun z => by
   show (Instr.checkKey e (9998 + 1) 3 _).run Tryz.prog w = _
   unfold Instr.checkKey
   simp [zaA Tryz.underlying3]
  unfold Instr.checkKey
  simp [zaA Tryz.underlying81, p0, p1, c0]) (fun k => by simp [encTh, thC, Instr.sameBits])
theorem eqlFt (x y : Bool × Bool) (a b : Operand) {K : Value → World → Prop} {w : World} (k : K (.bool (decide (x = y))) w) :
  RunV Tryz.prog (do eqGuard .eql 83 a b (.agg (ftC x).toArray) (.agg (ftC y).toArray); binOp .eql 83 (.agg (ftC x).toArray) (.agg (ftC y).toArray)) w K := by
 refine RunV.of ?_ k
 rw [Sem.run_bind, run_eqGuard_agg w .eql 83 a b _ _ (by kernel_rfl), Result.andThen_ok, run_eql_struct]
 rw [show (10000 : Nat) = 9999 + 1 from rfl]
 have := eq_ft x y w
 unfold encFt at this
 rw [this]
 rfl
end Go.Proofs.YtcplagfblmemhaaGreatDoor
namespace Go.Cx
set_option linter.unusedVariables false
open Go.Cs Go.Lib
set_option linter.unusedVariables false
abbrev FM := List (Key × (Bool × Bool))
def fget : FM → Key → Option (Bool × Bool)
 | [], _ => none
 | (s, v) :: r, k => if k = s then some v else fget r k
def fput : FM → Key → Bool × Bool → FM
 | [], k, x => [(k, x)]
 | (s, v) :: r, k, x => if k = s then (s, x) :: r else (s, v) :: fput r k x
theorem zjV (k k' : Key) (x : Bool × Bool) : ∀ m : FM, fget (fput m k x) k' = if k' = k then some x else fget m k'
 | [] => by simp [fput, fget]
 | (s, v) :: r => by
  unfold fput
  by_cases h : k = s
  ·subst h
   rw [if_pos rfl]
   simp only [fget]
   split <;> rfl
  ·rw [if_neg h]
   simp only [fget]
   by_cases h2 : k' = s
   ·rw [if_pos h2, if_pos h2, if_neg (fun e => h (by rw [← e, h2]))]
   ·rw [if_neg h2, if_neg h2, zjV k k' x r]
theorem zhT (k : Key) (x : Bool × Bool) : ∀ m : FM, (m.map (·.1)).Nodup → ((fput m k x).map (·.1)).Nodup ∧ ∀ z, z ∈ (fput m k x).map (·.1) → z = k ∨ z ∈ m.map (·.1)
 | [], _ => by simp [fput]
 | (s, v) :: r, h => by
  rw [List.map_cons, List.nodup_cons] at h
  unfold fput
  split
  ·exact ⟨by rw [List.map_cons, List.nodup_cons]; exact h, fun z hz => .inr hz⟩
  ·rename_i hk
   obtain ⟨h1, h2⟩ := zhT k x r h.2
   refine ⟨?_, fun z hz => ?_⟩
   ·rw [List.map_cons, List.nodup_cons]
    refine ⟨fun hs => ?_, h1⟩
    rcases h2 _ hs with e | e
    ·exact hk e.symm
    ·exact h.1 e
   ·rw [List.map_cons, List.mem_cons] at hz ⊢
    rcases hz with hz | hz
    ·exact .inr (.inl hz)
    ·rcases h2 z hz with e | e
     ·exact .inl e
     ·exact .inr (.inr e)
def keyC (c : Chg) : Key := (c.of, c.id)
def stepF (m : FM) (c : Chg) : FM := fput m (keyC c) (match fget m (keyC c) with | none => decide (c.what ≠ 1) | some p => p.1, decide (c.what ≠ 3))
def fates (cs : List Chg) : FM := cs.foldl stepF []
theorem zcW (cs : List Chg) (c : Chg) : fates (cs ++ [c]) = stepF (fates cs) c := by unfold fates; rw [List.foldl_append]; rfl
theorem zic (cs : List Chg) (c : Chg) (k : Key) : fate (cs ++ [c]) k = if keyC c = k then fstep (fate cs k) c else fate cs k := by
 unfold fate
 rw [List.filter_append, List.foldl_append]
 by_cases h : keyC c = k
 ·have : ([c].filter fun c => decide ((c.of, c.id) = k)) = [c] := by
   rw [List.filter_cons, if_pos (by exact decide_eq_true h)]; rfl
  rw [this, if_pos h]; rfl
 ·have : ([c].filter fun c => decide ((c.of, c.id) = k)) = [] := by
   rw [List.filter_cons, if_neg (by rw [decide_eq_true_eq]; exact h)]; rfl
  rw [this, if_neg h]; rfl
theorem snocInd {α : Type} {p : List α → Prop} (h0 : p []) (hs : ∀ l a, p l → p (l ++ [a])) (l : List α) : p l := by
 have : ∀ n (l : List α), l.length = n → p l := by
  intro n
  induction n with
  | zero => intro l h; rw [List.eq_nil_of_length_eq_zero h]; exact h0
  | succ n ih =>
   intro l h
   have hne : l ≠ [] := fun e => by rw [e] at h; cases h
   rw [← List.dropLast_concat_getLast hne]
   exact hs _ _ (ih _ (by rw [List.length_dropLast]; omega))
 exact this _ l rfl
theorem zlV (k : Key) (cs : List Chg) : fget (fates cs) k = fate cs k := by
 induction cs using snocInd with
 | h0 => rfl
 | hs cs c ih =>
  rw [zcW, zic]
  unfold stepF
  rw [zjV]
  by_cases h : k = keyC c
  ·subst h
   rw [if_pos rfl, if_pos rfl, ih]; rfl
  ·rw [if_neg h, if_neg (fun e => h e.symm), ih]
theorem zfB (cs : List Chg) : ((fates cs).map (·.1)).Nodup := by
 induction cs using snocInd with
 | h0 => exact List.nodup_nil
 | hs cs c ih => rw [zcW]; exact (zhT _ _ _ ih).1
theorem zjx : ∀ (m : FM), (m.map (·.1)).Nodup → ∀ k x, fget m k = some x ↔ (k, x) ∈ m
 | [], _, k, x => by simp [fget]
 | (s, v) :: r, h, k, x => by
  rw [List.map_cons, List.nodup_cons] at h
  unfold fget
  split
  ·rename_i e
   subst e
   rw [List.mem_cons]
   constructor
   ·intro e; injection e with e; exact .inl (by rw [e])
   ·rintro (e | e)
    ·injection e with _ e; rw [e]
    ·exact (h.1 (List.mem_map_of_mem (f := (·.1)) e)).elim
  ·rename_i e
   rw [zjx r h.2 k x, List.mem_cons]
   constructor
   ·exact .inr
   ·rintro (e2 | e2)
    ·injection e2 with e2 _; exact (e e2).elim
    ·exact e2
theorem znK (l : List Int) (n : Int) : putS l n = insD ltI n l := by
 induction l with
 | nil => rfl
 | cons x l ih =>
  unfold putS insD
  simp only [ltI, decide_eq_true_eq, ih]
  by_cases h1 : x < n
  ·rw [if_pos h1, if_pos h1]
  ·rw [if_neg h1, if_neg h1]
   by_cases h2 : x = n
   ·rw [if_pos h2, if_neg (by omega)]
   ·rw [if_neg h2, if_pos (by omega)]
theorem zgS (cs : List Chg) (of : Int) : idsA cs of = sortD ltI ((cs.filter fun c => decide (c.of = of)).map (·.id)) := by
 unfold idsA sortD
 rw [List.foldl_map]
 congr 1
 funext l c
 exact znK l c.id
theorem zmZ (cs : List Chg) (of n : Int) : n ∈ idsA cs of ↔ ∃ c ∈ cs, keyC c = (of, n) := by
 rw [zgS, zbX stoI, List.mem_map]
 constructor
 ·rintro ⟨c, hc, rfl⟩
  obtain ⟨h1, h2⟩ := List.mem_filter.1 hc
  exact ⟨c, h1, by unfold keyC; rw [of_decide_eq_true h2]⟩
 ·rintro ⟨c, hc, e⟩
  unfold keyC at e
  injection e with e1 e2
  exact ⟨c, List.mem_filter.2 ⟨hc, decide_eq_true e1⟩, e2⟩
theorem zhq {cs : List Chg} {k : Key} : fate cs k ≠ none ↔ ∃ c ∈ cs, keyC c = k := by
 induction cs using snocInd with
 | h0 => simp [fate]
 | hs cs c ih =>
  rw [zic]
  by_cases h : keyC c = k
  ·rw [if_pos h]
   exact ⟨fun _ => ⟨c, by simp, h⟩, fun _ => by simp [fstep]⟩
  ·rw [if_neg h, ih]
   constructor
   ·rintro ⟨c', h1, h2⟩; exact ⟨c', List.mem_append_left _ h1, h2⟩
   ·rintro ⟨c', h1, h2⟩
    rcases List.mem_append.1 h1 with h1 | h1
    ·exact ⟨c', h1, h2⟩
    ·rw [List.mem_singleton.1 h1] at h2; exact (h h2).elim
def gather (m : FM) (of : Int) (x : Bool × Bool) : List Int := (m.filter fun p => decide (p.1.1 = of) && decide (p.2 = x)).map (·.1.2)
theorem zkK {cs : List Chg} {m : FM} (hp : m.Perm (fates cs)) (of : Int) (a b : Bool) : ((gather m of (a, b)).mergeSort fun x y => decide (x ≤ y)) = netA cs of a b := by
 have hnd : (m.map (·.1)).Nodup := (hp.map _).nodup_iff.2 (zfB cs)
 have hmem : ∀ z, z ∈ gather m of (a, b) ↔ fate cs (of, z) = some (a, b) := fun z => by
  rw [← zlV, zjx _ (zfB cs)]
  unfold gather
  rw [List.mem_map]
  constructor
  ·rintro ⟨⟨⟨o, n⟩, x⟩, h1, rfl⟩
   obtain ⟨h3, h2⟩ := List.mem_filter.1 h1
   simp only [Bool.and_eq_true, decide_eq_true_eq] at h2
   have h4 := hp.mem_iff.1 h3
   rw [h2.1, h2.2] at h4
   exact h4
  ·intro h
   exact ⟨((of, z), (a, b)), List.mem_filter.2 ⟨hp.mem_iff.2 h, by simp⟩, rfl⟩
 have hgn : (gather m of (a, b)).Nodup := by
  unfold gather
  have h1 : ∀ l : FM, (l.map (·.1)).Nodup → ((l.filter fun p => decide (p.1.1 = of) && decide (p.2 = (a, b))).map (·.1.2)).Nodup := by
   intro l
   induction l with
   | nil => intro _; exact List.nodup_nil
   | cons p l ih =>
    intro h
    rw [List.map_cons, List.nodup_cons] at h
    rw [List.filter_cons]
    split
    ·rename_i hp
     simp only [Bool.and_eq_true, decide_eq_true_eq] at hp
     rw [List.map_cons, List.nodup_cons]
     refine ⟨fun hx => h.1 ?_, ih h.2⟩
     obtain ⟨p', h1, h2⟩ := List.mem_map.1 hx
     obtain ⟨h3, h4⟩ := List.mem_filter.1 h1
     simp only [Bool.and_eq_true, decide_eq_true_eq] at h4
     have : p'.1 = p.1 := Prod.ext (by rw [h4.1, hp.1]) h2
     rw [← this]
     exact List.mem_map_of_mem (f := (·.1)) h3
    ·exact ih h.2
  exact h1 m hnd
 refine zcx stoI _ _ ?_ ?_ fun z => ?_
 ·have h1 : ((gather m of (a, b)).mergeSort fun x y => decide (x ≤ y)).Pairwise fun x y => decide (x ≤ y) = true := List.pairwise_mergeSort (fun a b c h1 h2 => by simp only [decide_eq_true_eq] at *; omega) (fun a b => by simp only [Bool.or_eq_true, decide_eq_true_eq]; omega) _
  have h2 : ((gather m of (a, b)).mergeSort fun x y => decide (x ≤ y)).Nodup := (List.mergeSort_perm _ _).nodup_iff.2 hgn
  refine (h1.and h2).imp fun {x y} h => ?_
  simp only [decide_eq_true_eq, ltI] at *
  have := h.2
  have := h.1
  omega
 ·unfold netA
  rw [zgS]
  exact zej _ (zbV stoI _)
 ·rw [(List.mergeSort_perm _ _).mem_iff, hmem]
  unfold netA
  rw [List.mem_filter, decide_eq_true_eq, zmZ]
  constructor
  ·intro h; exact ⟨zhq.1 (by rw [h]; simp), h⟩
  ·exact fun h => h.2
end Go.Cx
