/- Helper lemmas; no conditions of their own. -/
import Derived.Test.YtennokckmjcefaaGreatDoorGMj9
set_option linter.unusedVariables false
set_option maxRecDepth 100000
namespace Go.Vc
open Go Go.Pw Go.RowKit
set_option linter.unusedSectionVars false
section
variable {κ : Type} [DecidableEq κ] {enc : κ → Value} {P : Program} {w : World} {b r : Nat} {m left : GM κ} {t kt et : TypeId} {K : Value → World → Prop}
def GMapO (enc : κ → Value) (w : World) (b : Nat) (m : GM κ) : Prop := ∃ es clock, w.heap[b]? = some (.map es clock) ∧ es.toList.map entG = m.map (gmP enc) ∧ (es.toList.map (·.born)).Nodup ∧ ∀ e ∈ es.toList, e.born < clock
theorem GMapO.g (h : GMapO enc w b m) : GMap enc w b m := by obtain ⟨es, c, h1, h2, _⟩ := h; exact ⟨es, c, h1, h2⟩
theorem GMapO.keep {w' : World} {c : Nat → Prop} (h : GMapO enc w b m) (k : Kp w w' c) (hc : ¬ c b) : GMapO enc w' b m := by
 have hlt := h.g.lt
 obtain ⟨es, cl, hb, he⟩ := h
 exact ⟨es, cl, (k.block b hlt hc).trans hb, he⟩
theorem GMapO.new (w : World) : GMapO enc (w.alloc (.map #[] 0)) w.heap.size ([] : GM κ) := ⟨#[], 0, heap_alloc_new w _, rfl, List.nodup_nil, fun _ h => by cases h⟩
theorem zfq {es : List MapEntry} {d : Nat} {f : MapEntry → MapEntry} (hf : ∀ e, (f e).born = e.born) : (es.modify d f).map (·.born) = es.map (·.born) := by
 induction es generalizing d with
 | nil => simp
 | cons e es ih => cases d with
  | zero => simp [hf]
  | succ d => simp [ih]
theorem RunU.updGO {K : World → Prop} (ok : KeyOk P kt enc) (ht : P.underlying t = some (.map kt et)) (h : GMapO enc w b m) (s : κ) {e : Value} (he : e = enc s) (x : Value) (k : ∀ w', GMapO enc w' b (m.put s x) → Kp w w' (one_ b) → K w') :
  RunU P (Instr.mapUpdate t (.map (some b)) e x) w K := by
 subst he
 have hlt := h.g.lt
 obtain ⟨es, clock, hb, he, hnd, hlc⟩ := h
 cases hi : m.idx s 0 with
 | none =>
  obtain ⟨_, h2, _⟩ := GM.idx_none s m 0 hi
  refine ⟨_, ?_, k (setOG w b (.map (es.push { key := enc s, val := x, born := clock }) (clock + 1))) ⟨_, _, zcG _ hlt, ?_, ?_, ?_⟩ (zck _)⟩
  ·simp [Instr.mapUpdate, und_ok ht, getObj, setObj, Sem.run, hb, ok.check, ok.find w s es.toList m he, hi, setOG]
  ·rw [h2 x]; simp [he, entG, gmP]
  ·simp only [Array.toList_push, yaL, yas, ybg]
   refine ybr.2 ⟨hnd, by simp, ?_⟩
   intro a ha c hc e
   simp only [yac] at hc
   obtain ⟨e', h1, h2⟩ := yay.1 ha
   have := hlc e' h1
   omega
  intro e' h'
  simp only [Array.toList_push, yaj, yac] at h'
  rcases h' with h' | rfl
  ·have := hlc e' h'; omega
  exact Nat.lt_succ_self _
 | some jv =>
  obtain ⟨j, v⟩ := jv
  obtain ⟨d, rfl, hd, _, hkey, hmod, _⟩ := GM.idx_some s es.toList m 0 j v he hi
  refine ⟨_, ?_, k (setOG w b (.map (es.modify d fun e => { e with key := enc s, val := x }) clock)) ⟨_, _, zcG _ hlt, ?_, ?_, ?_⟩ (zck _)⟩
  ·have hk2 : ((es[d]?).map (·.key)).getD (enc s) = enc s := by
    rw [show es[d]? = es.toList[d]? from by simp, hkey]; rfl
   simp only [Instr.mapUpdate, Sem.run_bind, und_ok ht, Result.andThen_ok, getObj, Sem.run, hb, ok.check, ok.find w s es.toList m he, hi]
   simp [Instr.keyThatStays, hk2, ok.bits, setObj, Sem.run, setOG, hb]
  ·rw [ybS]; exact hmod x
  ·rw [ybS, zfq (f := fun e => { e with key := enc s, val := x }) (fun _ => rfl)]; exact hnd
  intro e' h'
  rw [ybS] at h'
  have : e'.born ∈ (es.toList.modify d fun e => { e with key := enc s, val := x }).map (·.born) := yax h'
  rw [zfq (f := fun e => { e with key := enc s, val := x }) (fun _ => rfl)] at this
  obtain ⟨e2, h1, h2⟩ := yay.1 this
  rw [← h2]; exact hlc e2 h1
def zbZ (enc : κ → Value) (w : World) (b r : Nat) (left : GM κ) : Prop := ∃ es clock seen, w.heap[b]? = some (.map es clock) ∧ w.heap[r]? = some (.mapIter (some b) clock seen clock) ∧ (es.toList.map (·.born)).Nodup ∧ (∀ e ∈ es.toList, e.born < clock) ∧
 (es.toList.filter fun e => !seen.contains e.born).map entG = left.map (gmP enc)
theorem zbZ.lt (h : zbZ enc w b r left) : b < w.heap.size ∧ r < w.heap.size := by
 obtain ⟨es, c, s, h1, h2, _⟩ := h
 exact ⟨(Array.getElem?_eq_some_iff.1 h1).1, (Array.getElem?_eq_some_iff.1 h2).1⟩
theorem zbZ.keep {w' : World} {c : Nat → Prop} (h : zbZ enc w b r left) (k : Kp w w' c) (hb : ¬ c b) (hr : ¬ c r) : zbZ enc w' b r left := by
 have hlt := h.lt
 obtain ⟨es, cl, s, h1, h2, h3⟩ := h
 exact ⟨es, cl, s, (k.block b hlt.1 hb).trans h1, (k.block r hlt.2 hr).trans h2, h3⟩
theorem RunV.rangeG (ht : P.underlying t = some (.map kt et)) (h : GMapO enc w b m) (k : ∀ w', zbZ enc w' b w.heap.size m → Kp w w' n_ → w'.heap.size = w.heap.size + 1 → K (.pointer (some ⟨w.heap.size, 0, none⟩)) w') : RunV P (Instr.range t (.map (some b))) w K := by
 have hlt := h.g.lt
 obtain ⟨es, clock, hb, he, hnd, hlc⟩ := h
 refine ⟨_, w.alloc (.mapIter (some b) clock #[] clock), ?_, k _ ⟨es, clock, #[], (Below.heap_alloc _ _ _ hlt).trans hb, heap_alloc_new w _, hnd, hlc, ?_⟩ ((Yb _ _).alloc _) (by simp)⟩
 ·simp only [Instr.range, Sem.run_bind, und_ok ht, Result.andThen_ok, getObj, Sem.run, hb, Sem.run_pure]
  rfl
 rw [yaQ.2 (fun x _ => by simp)]; exact he
theorem zjV {es : List MapEntry} {seen : Array Nat} {pre post : List MapEntry} {e : MapEntry} (hnd : (es.map (·.born)).Nodup) (h : (es.filter fun e => !seen.contains e.born) = pre ++ e :: post) :
  (es.filter fun e' => !(seen.push e.born).contains e'.born) = pre ++ post := by
 have h1 : (es.filter fun e' => !(seen.push e.born).contains e'.born) = (es.filter fun e => !seen.contains e.born).filter fun e' => !decide (e'.born = e.born) := by
  rw [ybU]
  refine yca fun x _ => ?_
  simp only [Array.contains_push, Bool.not_or]
  rw [Bool.and_comm]
  congr 1
 rw [h1, h]
 have hnd2 : ((pre ++ e :: post).map (·.born)).Nodup := by
  rw [← h]; exact hnd.sublist (List.Sublist.map _ ybs)
 simp only [yaL, yas, ybr, ybV] at hnd2
 obtain ⟨_, ⟨hp, _⟩, hd⟩ := hnd2
 simp only [ybf, ybq, decide_true, Bool.not_true]
 have f1 : pre.filter (fun e' => !decide (e'.born = e.born)) = pre := yaQ.2 fun x hx => by
  have := hd x.born (yax hx) e.born yae
  simpa using this
 have f2 : post.filter (fun e' => !decide (e'.born = e.born)) = post := yaQ.2 fun x hx => by
  have : x.born ≠ e.born := fun h => hp (h ▸ yax hx)
  simpa using this
 rw [f1, f2]; rfl
theorem znd {es : List MapEntry} {e : MapEntry} (hnd : (es.map (·.born)).Nodup) (he : e ∈ es) : es.find? (fun x => x.born == e.born) = some e := by
 induction es with
 | nil => cases he
 | cons a l ih =>
  rw [yas, ybV] at hnd
  rw [List.find?_cons]
  by_cases h : a.born = e.born
  ·have hae : a = e := by
    rcases yah.1 he with rfl | h2
    ·rfl
    exact (hnd.1 (h ▸ yax h2)).elim
   subst hae; simp
  have : (a.born == e.born) = false := by simp [h]
  rw [this]
  rcases yah.1 he with rfl | h2
  ·exact (h rfl).elim
  exact ih hnd.2 h2
theorem zmt {n : Nat} (hn : 0 < n) (w : World) : ∃ i w1, (choose (.mapNext n)).run P w = .ok i w1 ∧ i < n ∧ w1.heap = w.heap ∧ Kp w w1 n_ := by
 by_cases h : n ≤ 1
 ·exact ⟨0, w, by simp [Question.forced, h], hn, rfl, Yb _ _⟩
 exact ⟨w.tape w.drawn (.mapNext n) % n, w.drew, by simp [Question.forced, h, Question.cut], Nat.mod_lt _ hn, rfl, (Yb _ _).drew⟩
theorem RunV.nextG {ty : TypeId} (h : zbZ enc w b r left)
  (over : left = [] → ∀ w', Kp w w' n_ → w'.heap.size = w.heap.size → K (.tuple #[.bool false]) w')
  (more : ∀ pre p post w', left = pre ++ p :: post → zbZ enc w' b r (pre ++ post) → Kp w w' (one_ r) → w'.heap.size = w.heap.size → (Instr.entry (.pointer (some ⟨r, 0, none⟩))).run P w' = .ok (.tuple #[enc p.1, p.2]) w' → K (.tuple #[.bool true, enc p.1, p.2]) w') : RunV P (Instr.next (.pointer (some ⟨r, 0, none⟩)) false ty) w K := by
 obtain ⟨es, clock, seen, hb, hr, hnd, hlc, hl⟩ := h
 have hrlt : r < w.heap.size := (Array.getElem?_eq_some_iff.1 hr).1
 have hblt : b < w.heap.size := (Array.getElem?_eq_some_iff.1 hb).1
 have hne : b ≠ r := fun e => by subst e; rw [hb] at hr; cases hr
 have hall : (!seen.isEmpty && !es.isEmpty && es.all (fun e => decide (e.born ≥ clock))) = false := by
  cases hes : es.toList with
  | nil =>
   have : es = #[] := by apply Array.ext'; simpa using hes
   subst this; simp
  | cons e l =>
   have h1 := hlc e (by rw [hes]; exact yae)
   have : es.all (fun e => decide (e.born ≥ clock)) = false := by
    rw [← Array.all_toList, hes]
    simp only [List.all_cons]
    rw [show decide (e.born ≥ clock) = false from by simp; omega]
    rfl
   rw [this]; simp
 have hold : (es.filter fun e => !seen.contains e.born).filter (fun e => decide (e.born < clock)) = es.filter fun e => !seen.contains e.born := by
  apply Array.ext'
  simp only [Array.toList_filter]
  exact yaQ.2 fun x hx => by simpa using hlc x (yav.1 hx).1
 have hnew : (es.filter fun e => !seen.contains e.born).filter (fun e => decide (e.born ≥ clock)) = #[] := by
  apply Array.ext'
  simp only [Array.toList_filter]
  exact List.filter_eq_nil_iff.2 fun x hx => by have := hlc x (yav.1 hx).1; simp; omega
 obtain ⟨old, hO⟩ : ∃ old, (es.filter fun e => !seen.contains e.born) = old := ⟨_, rfl⟩
 have hOl : old.toList = es.toList.filter fun e => !seen.contains e.born := by rw [← hO]; simp
 rw [← hOl] at hl
 rw [hO] at hold hnew
 cases hcase : old.toList with
 | nil =>
  have he : old = #[] := by apply Array.ext'; simpa using hcase
  have hle : left = [] := by rw [hcase] at hl; cases left with | nil => rfl | cons a l => simp at hl
  refine ⟨_, w, ?_, over hle w (Yb _ _) rfl⟩
  simp only [Instr.next, Sem.run_bind, getObj, Sem.run, hr, Result.andThen_ok, hb, hall, ybP, if_false, hO, hold, hnew]
  rw [he]
  simp [Question.forced]
 | cons e0 l0 =>
  have hpos : 0 < old.size := by rw [← ybK, hcase]; simp
  obtain ⟨i, w1, hch, hi, hh, hk⟩ := zmt (P := P) hpos w
  have hil : i < old.toList.length := by simpa using hi
  have hsplit : old.toList = old.toList.take i ++ old[i] :: old.toList.drop (i + 1) := by
   rw [show old[i] = old.toList[i] from by simp, ← yat hil, yaB]
  have hlen : left.length = old.toList.length := by have := congrArg List.length hl; simpa using this.symm
  have hill : i < left.length := OM
  have hls : left = left.take i ++ left[i]'hill :: left.drop (i + 1) := by rw [← yat hill, yaB]
  have hent : entG old[i] = gmP enc (left[i]'hill) := by
   have e1 : (old.toList.map entG)[i]? = (left.map (gmP enc))[i]? := by rw [hl]
   rw [List.getElem?_map, List.getElem?_map, List.getElem?_eq_getElem hil, List.getElem?_eq_getElem hill] at e1
   simpa using e1
  simp only [entG, gmP, Prod.mk.injEq] at hent
  refine ⟨_, setOG w1 r (.mapIter (some b) clock (seen.push old[i].born) clock), ?_, more _ _ _ _ hls ⟨es, clock, seen.push old[i].born, ?_, ?_, hnd, hlc, ?_⟩ ?_ ?_ ?_⟩
  ·simp only [Instr.next, Sem.run_bind, getObj, Sem.run, hr, Result.andThen_ok, hb, hall]
   have hne0 : old.isEmpty = false := by simp only [Array.isEmpty, decide_eq_false_iff_not]; omega
   simp only [hO, hold, hnew, hne0, Array.append_empty, Array.size_map, ybP, if_false, Array.empty_append, Sem.run_bind, Result.andThen_ok, hch]
   simp only [Array.getElem?_map, Array.getElem?_eq_getElem hi, ybn, Sem.run_bind, setObj, Sem.run, Sem.run_pure, ← hent.1, ← hent.2]
   simp [setOG, hh, hr]
  ·rw [← hb, ← hh]; simp [setOG, hne.symm]
  ·exact zcG _ (by rw [hh]; exact hrlt)
  ·rw [zjV hnd (pre := old.toList.take i) (post := old.toList.drop (i + 1)) (by rw [← hOl]; exact hsplit)]
   rw [yaL, yaL, List.map_take, List.map_take, List.map_drop, List.map_drop, hl]
  ·exact (hk.of_none (c := one_ r)).trans' (zck _)
  ·simp [setOG, hh]
  have h1 : (setOG w1 r (.mapIter (some b) clock (seen.push old[i].born) clock)).heap[r]? = some (.mapIter (some b) clock (seen.push old[i].born) clock) := zcG _ (by rw [hh]; exact hrlt)
  have h2 : (setOG w1 r (.mapIter (some b) clock (seen.push old[i].born) clock)).heap[b]? = some (.map es clock) := by rw [← hb, ← hh]; simp [setOG, hne.symm]
  have hmem : old[i] ∈ es.toList := by
   have : old[i] ∈ old.toList := by rw [show old[i] = old.toList[i] from by simp]; exact yak hil
   rw [hOl] at this; exact (yav.1 this).1
  have hf := znd hnd hmem
  have hf2 : es.find? (fun x => x.born == old[i].born) = some old[i] := by rw [← hf, ← Array.find?_toList]
  simp only [Instr.entry, Sem.run_bind, getObj, Sem.run, h1, Result.andThen_ok, Array.back?_push, h2, bne_self_eq_false, ybP, if_false, hf2, Sem.run_pure, hent.1, hent.2]
end
end Go.Vc
namespace Go.Proofs.YtennokckmjcefaaGreatDoor
open Go.Shelf Go.RowKit Go.Pw Go.Vc Go.Cs Go.Lib Go.Cd Go.Mg
def spC (p : Int × Int) : List Value := [.int .i64 p.1, .int .i64 p.2]
def encSp (p : Int × Int) : Value := .agg (spC p).toArray
def kyC (p : Int × List UInt8) : List Value := [.int .i64 p.1, .string (str p.2)]
def encKy (p : Int × List UInt8) : Value := .agg (kyC p).toArray
theorem zqC : ∃ a b, (Tryz.prog.fieldsOf 161).toList = [a, b] ∧ a.name ≠ "_" ∧ b.name ≠ "_" ∧ a.type = 3 ∧ b.type = 3 ∧ a.offset = 0 ∧ b.offset = 1 :=
 ⟨_, _, rfl, by decide, by decide, rfl, rfl, rfl, rfl⟩
theorem zqk : ∃ a b, (Tryz.prog.fieldsOf 164).toList = [a, b] ∧ a.name ≠ "_" ∧ b.name ≠ "_" ∧ a.type = 3 ∧ b.type = 9 ∧ a.offset = 0 ∧ b.offset = 1 :=
 ⟨_, _, rfl, by decide, by decide, rfl, rfl, rfl, rfl⟩
theorem eq_sp (x y : Int × Int) (w : World) : (Op.equalIn (9999 + 1) 161 (encSp x) (encSp y)).run Tryz.prog w = .ok (decide (x = y)) w := by
 unfold encSp
 rw [run_equalIn_agg w 9999 161 _ _ (by rfl) (by kernel_rfl)]
 obtain ⟨a, b, hf, na, nb, ta, tb, oa, ob⟩ := zqC
 rw [hf]
 simp only [Op.eqFields, na, nb, ne_eq, not_false_eq_true, if_true, ta, tb, oa, ob]
 have p0 : (part 3 (spC x).toArray 0).run Tryz.prog w = .ok (.int .i64 x.1) w := by rfl
 have p1 : (part 3 (spC x).toArray 1).run Tryz.prog w = .ok (.int .i64 x.2) w := by rfl
 have q0 : (part 3 (spC y).toArray 0).run Tryz.prog w = .ok (.int .i64 y.1) w := by rfl
 have q1 : (part 3 (spC y).toArray 1).run Tryz.prog w = .ok (.int .i64 y.2) w := by rfl
 have i1 (a b : Int) : (Op.equalIn (9998 + 1) 3 (.int .i64 a) (.int .i64 b)).run Tryz.prog w = .ok (a == b) w := run_equalIn_int w 9998 3 .i64 .i64 a b (by rfl)
 simp only [Sem.run_bind, Sem.run_ite, p0, p1, q0, q1, i1, Result.andThen_ok]
 obtain ⟨x1, x2⟩ := x
 obtain ⟨y1, y2⟩ := y
 dsimp only
 by_cases h1 : x1 = y1 <;> by_cases h2 : x2 = y2 <;> simp [h1, h2]
theorem eq_ky (x y : Int × List UInt8) (w : World) : (Op.equalIn (9999 + 1) 164 (encKy x) (encKy y)).run Tryz.prog w = .ok (decide (x = y)) w := by
 unfold encKy
 rw [run_equalIn_agg w 9999 164 _ _ (by rfl) (by kernel_rfl)]
 obtain ⟨a, b, hf, na, nb, ta, tb, oa, ob⟩ := zqk
 rw [hf]
 simp only [Op.eqFields, na, nb, ne_eq, not_false_eq_true, if_true, ta, tb, oa, ob]
 have p0 : (part 3 (kyC x).toArray 0).run Tryz.prog w = .ok (.int .i64 x.1) w := by rfl
 have p1 : (part 9 (kyC x).toArray 1).run Tryz.prog w = .ok (.string (str x.2)) w := by rfl
 have q0 : (part 3 (kyC y).toArray 0).run Tryz.prog w = .ok (.int .i64 y.1) w := by rfl
 have q1 : (part 9 (kyC y).toArray 1).run Tryz.prog w = .ok (.string (str y.2)) w := by rfl
 have i1 (a b : Int) : (Op.equalIn (9998 + 1) 3 (.int .i64 a) (.int .i64 b)).run Tryz.prog w = .ok (a == b) w := run_equalIn_int w 9998 3 .i64 .i64 a b (by rfl)
 have s1 (a b : ByteArray) : (Op.equalIn (9998 + 1) 9 (.string a) (.string b)).run Tryz.prog w = .ok (a == b) w := by rfl
 simp only [Sem.run_bind, Sem.run_ite, p0, p1, q0, q1, i1, s1, Result.andThen_ok]
 obtain ⟨x1, x2⟩ := x
 obtain ⟨y1, y2⟩ := y
 dsimp only
 rw [zpu]
 by_cases h1 : x1 = y1 <;> by_cases h2 : x2 = y2 <;> simp [h1, h2, zbB]
theorem keySp : KeyOk Tryz.prog 161 encSp := ziq Tryz.underlying161 (fun _ _ => rfl) (fun w a b => eq_sp a b w) (fun e k w => by
  show (Instr.checkKey e (9999 + 1) 161 (.agg (spC k).toArray)).run Tryz.prog w = _
  have p0 : (part 3 (spC k).toArray 0).run Tryz.prog w = .ok (.int .i64 k.1) w := by rfl
  have p1 : (part 3 (spC k).toArray 1).run Tryz.prog w = .ok (.int .i64 k.2) w := by rfl
  have c0 : ∀ z, (Instr.checkKey e 9999 3 (.int .i64 z)).run Tryz.prog w = .ok () w := fun z => by
   show (Instr.checkKey e (9998 + 1) 3 _).run Tryz.prog w = _
   unfold Instr.checkKey
   simp [und_ok Tryz.underlying3]
  unfold Instr.checkKey
  simp [und_ok Tryz.underlying161, p0, p1, c0]) (fun k => by simp [encSp, spC, Instr.sameBits])
theorem keyKy : KeyOk Tryz.prog 164 encKy := ziq Tryz.underlying164 (fun _ _ => rfl) (fun w a b => eq_ky a b w) (fun e k w => by
  show (Instr.checkKey e (9999 + 1) 164 (.agg (kyC k).toArray)).run Tryz.prog w = _
  have p0 : (part 3 (kyC k).toArray 0).run Tryz.prog w = .ok (.int .i64 k.1) w := by rfl
  have p1 : (part 9 (kyC k).toArray 1).run Tryz.prog w = .ok (.string (str k.2)) w := by rfl
  have c0 : ∀ z, (Instr.checkKey e 9999 3 (.int .i64 z)).run Tryz.prog w = .ok () w := fun z => by
   show (Instr.checkKey e (9998 + 1) 3 _).run Tryz.prog w = _
   unfold Instr.checkKey
   simp [und_ok Tryz.underlying3]
  have c1 : ∀ z, (Instr.checkKey e 9999 9 (.string z)).run Tryz.prog w = .ok () w := fun z => by
   show (Instr.checkKey e (9998 + 1) 9 _).run Tryz.prog w = _
   unfold Instr.checkKey
   simp [und_ok Tryz.underlying9]
  unfold Instr.checkKey
  simp [und_ok Tryz.underlying164, p0, p1, c0, c1]) (fun k => by simp [encKy, kyC, Instr.sameBits, zpu])
structure Ent where
 doc : Int
 field : Int
 text : List UInt8
deriving DecidableEq
def enC (e : Ent) : List Value := [.int .i64 e.doc, .int .i64 e.field, .string (str e.text)]
def countsE (e : Ent) : Bool := decide (1 ≤ e.doc) && decide (e.doc ≤ 1099511627776) && decide (0 < e.field) && decide (e.field < 6)
section
variable {w : World}
theorem zpa (e : Ent) : Calls Tryz.prog 139 #[.agg (enC e).toArray] w fun r w' => r = .returned (.bool (countsE e)) ∧ Kp w w' n_ := by
 refine zaa (args := [.agg (enC e).toArray]) Tryz.func139 rfl NL ?_; refine GW ?_
 obtain ⟨a_b3, v_b3, k_w1, z_w1, r_w1⟩ := new5 w 111 (enC e)
 generalize w.alloc (.cells (List.toArray (enC e)) 111) = w1 at *
 generalize hs_b3 : w.heap.size = b3 at *
 have q := Yb w1 n_
 unfold countsE
 by_cases h1 : 1 ≤ e.doc
 ·by_cases h2 : e.doc ≤ 1099511627776
  ·by_cases h3 : 0 < e.field
   ·refine KGO ?_
    exact ⟨ret_bool (by simp [h1, h2, h3]), k_w1⟩
   refine KGO ?_
   exact ⟨ret_bool (by simp [h3]), k_w1⟩
  refine KGO ?_
  exact ⟨ret_bool (by simp [h2]), k_w1⟩
 refine KGO ?_
 exact ⟨ret_bool (by simp [h1]), k_w1⟩
def zjc (gf : Nat) (lb : Array Value) (mb : Nat) (ks : List Int) (w : World) : Prop := ∀ (L : Nat) (J Jx : List Int → World → Prop) (W : World), Kp w W n_ → (∀ pre W', J pre W' → W.heap.size ≤ W'.heap.size ∧ W'.heap[mb]? = W.heap[mb]?) → (∀ pre W1 W2, J pre W1 → Kp W1 W2 (one_ W.heap.size) → J pre W2) →
 (∀ pre x W1, J pre W1 → (∃ rest, (pre ++ x :: rest).Perm ks) ∧ W.heap.size + 1 ≤ W1.heap.size → YieldS Tryz.prog L [.int .i64 x] W1 fun v W2 => (v = .bool true ∧ J (pre ++ [x]) W2 ∧ SameB (one_ W.heap.size) W1 W2) ∨ (v = .bool false ∧ Jx (pre ++ [x]) W2)) → J [] W →
 Calls Tryz.prog gf (#[.func (.yield L) #[] #[]] ++ lb) W fun e W' => (∃ v, e = .returned v) ∧ ((∃ xs, xs.Perm ks ∧ J xs W') ∨ ∃ pre, Jx pre W')
theorem zbZ.same {κ : Type} {enc : κ → Value} {w w' : World} {b r : Nat} {l : GM κ} (h : zbZ enc w b r l) (h1 : w'.heap[b]? = w.heap[b]?) (h2 : w'.heap[r]? = w.heap[r]?) : zbZ enc w' b r l := by
 obtain ⟨es, cl, s, g1, g2, g3⟩ := h
 exact ⟨es, cl, s, h1.trans g1, h2.trans g2, g3⟩
theorem zsW {b mb : Nat} {m : GM Int} (hv : VarK w b 143 [.map (some mb)]) (hm : GMapO (Value.int .i64) w mb m) : zjc 211 #[.pointer (some ⟨b, 0, none⟩)] mb (m.map (·.1)) w := by
 intro L J Jx W hkW hJs hJk hY hJ0
 have vW := hv.keep0 hkW
 have mW := hm.keep hkW (fun e => e)
 have aW := vW.at
 have qW := Yb W n_
 show Calls Tryz.prog _ #[.func (.yield L) #[] #[], .pointer (some ⟨b, 0, none⟩)] W _
 refine zaa (args := [.func (.yield L) #[] #[], .pointer (some ⟨b, 0, none⟩)]) Tryz.func211 rfl NL ?_; refine GW ?_
 refine KGO ?_
 refine RunV.rangeG Tryz.underlying143 mW fun w1 hr k1 z1 => ?_
 obtain ⟨rb, hrb⟩ : ∃ rb, W.heap.size = rb := ⟨_, rfl⟩
 rw [hrb] at hr hJk hY hJs ⊢
 refine KGO ?_
 have hmb : mb < rb := by have := mW.g.lt; omega
 have hJ1 : J [] w1 := hJk _ _ _ hJ0 k1.of_none
 refine Yc (ι := List Int × GM Int) (fun _ => [(0, .func (.yield L) #[] #[]), (5, .pointer (some ⟨rb, 0, none⟩))])
  (fun i wr => J i.1 wr ∧ zbZ (Value.int .i64) wr mb rb i.2 ∧ (i.1 ++ i.2.map (·.1)).Perm (m.map (·.1))) (fun i => i.2.length) ([], m) FR
  ⟨hJ1, hr, List.Perm.refl _⟩ ?_
 rintro ⟨pre, left⟩ gg wr ⟨hj, hg, hp⟩
 dsimp only at hj hg hp
 refine GW ?_
 refine KGO ?_
 refine RunV.nextG hg (fun hl w2 k2 z2 => ?_) (fun pa q po w2 hl hr2 k2 z2 hent => ?_)
 ·subst hl
  have hj2 := hJk _ _ _ hj k2.of_none
  refine KGO ?_
  exact ⟨⟨_, rfl⟩, .inl ⟨pre, by simpa using hp, hj2⟩⟩
 obtain ⟨q1, q2⟩ := q
 subst hl
 have hj2 := hJk _ _ _ hj k2
 refine KGO ?_
 refine Ye hent ?_
 refine KGO ?_
 have hp2 : (pre ++ q1 :: (pa ++ po).map (·.1)).Perm (m.map (·.1)) := by
  refine List.Perm.trans ?_ hp
  rw [yaL, yaL, yas]
  exact List.Perm.append_left pre List.perm_middle.symm
 have hsz := hr2.lt
 have hy := hY pre q1 w2 hj2 ⟨⟨_, hp2⟩, OM⟩
 refine YieldS.of hy ?_
 rintro v wT (⟨rfl, hJT, hsame⟩ | ⟨rfl, hJT⟩)
 ·refine GW ?_
  refine KGO ?_
  exact ⟨(pre ++ [q1], pa ++ po), FR, ⟨hJT, zbZ.same hr2 ((hJs _ _ hJT).2.trans (hJs _ _ hj2).2.symm) (hsame rb rfl), by simpa using hp2⟩, by simp⟩
 refine GW ?_
 refine KGO ?_
 exact ⟨⟨_, rfl⟩, .inr ⟨_, hJT⟩⟩
theorem zun {gf mb : Nat} {lb : Array Value} {ks : List Int} (hgf : ∀ (args : Array Value) (w : World), (callFunc gf args).run Tryz.prog w = .ok (.enter gf args) w) (it : zjc gf lb mb ks w) (hmb : mb < w.heap.size) (hl : ks.length ≤ 1000000000) :
  Calls Tryz.prog 237 #[.slice none 0 0, .func (.func gf) #[] lb] w fun r w' => ∃ v xs, r = .returned v ∧ xs.Perm ks ∧ OwnI w' w.heap.size v xs ∧ Kp w w' n_ := by
 refine zaa (args := [.slice none 0 0, .func (.func gf) #[] lb]) Tryz.func237 rfl NL ?_; refine GW ?_
 obtain ⟨a_b3, v_b3, k_w1, z_w1, r_w1⟩ := new5 w 40 ([.slice none 0 0])
 generalize w.alloc (.cells (List.toArray ([.slice none 0 0])) 40) = w1 at *
 generalize hs_b3 : w.heap.size = b3 at *
 refine KGO ?_
 obtain ⟨D, hD⟩ : ∃ D, w1.heap.size = D := ⟨_, rfl⟩
 refine Range.introN (α := Int) (fun x => [.int .i64 x]) (by rfl) hgf rfl rfl (by decide) (fun _ => rfl) (fun b => b = w1.heap.size + 2) (fun b hb => OM)
  (fun pre W => Kp w1 W (one_ b3) ∧ ∃ vt, VarK W b3 40 [vt] ∧ OwnI W (D + 3) vt pre) (fun _ _ _ => False)
  (fun xs => xs.Perm ks) (fun pre x W => (∃ rest, (pre ++ x :: rest).Perm ks) ∧ D + 3 ≤ W.heap.size) ?_ ?_ ?_ ?_ ?_ ?_ ?_
 ·rintro pre W W' ⟨i1, vt, i2, i3⟩ hsz hk
  refine ⟨i1.trans hk fun q hq e => (by exfalso; rcases e with e | e <;> omega), vt, i2.keep hk (by rintro (e | e) <;> omega), own_keep i3 hk fun q hq e => ?_⟩
  obtain ⟨_, _, _, hBq, _⟩ := zat i3 hq
  rcases e with e | e <;> omega
 ·rintro c pre W W' h; exact h.elim
 ·intro W hk hz
  exact ⟨hk.of_none, .slice none 0 0, v_b3.keep0 hk, World.ownsRow_nil _ _ _ _⟩
 ·intro J Jx hJ1 hJk hJxk hY W hkW hWs hJ0
  have hm : ∀ {U : World}, Kp w1 U (one_ b3) → U.heap[mb]? = w1.heap[mb]? := fun k => k.block mb OM (fun e => by have e : mb = b3 := e; omega)
  have h := it (w1.heap.size + 1) J Jx W (k_w1.trans0 hkW) (fun pre W' h => ⟨by have := (hJ1 pre W' h).2; omega, (hm (hJ1 pre W' h).1.1).trans (hm hkW.of_none).symm⟩) (by rw [hWs]; exact hJk) (by
   rw [hWs]
   intro pre x W1 h1 h2
   exact hY pre x W1 h1 ⟨h2.1, OM⟩) hJ0
  exact h
 ·rintro pre x W ⟨i1, vt, i2, i3⟩ ⟨⟨rest, hrest⟩, hz3⟩ hsz
  obtain ⟨av, cv, rfl⟩ := zab i3
  have a3 := i2.at
  have qW := Yb W n_
  refine GW ?_
  refine KGO ?_
  refine ⟨⟨Rec2.of (Yb W n_) OM id id, fun W3 k3 z3 => ?_⟩⟩
  have i2 := i2.keep k3 (show ¬ b3 = w1.heap.size + 1 by omega)
  have i3 := own_keep i3 k3 fun q hq e => by
   obtain ⟨_, _, _, hBq, _⟩ := zat i3 hq
   have e : q = w1.heap.size + 1 := e
   omega
  have hpl : pre.length < ks.length := by
   have h := hrest.length_eq
   rw [yaa, yab] at h; omega
  clear a3
  have a3 := i2.at
  have q3 := Yb W3 n_
  refine GW ?_
  refine KGO ?_
  refine Ye (bs1I x _) ?_
  obtain ⟨a_b14, v_b14, k_W4, z_W4, r_W4⟩ := new5 W3 3 (inC x)
  generalize W3.alloc (.cells (List.toArray (inC x)) 3) = W4 at *
  generalize hs_b14 : W3.heap.size = b14 at *
  have i34 := own_keep0 i3 k_W4
  have i24 := i2.keep0 k_W4
  refine KGO ?_
  refine tyI.app1 x i34 OM a_b14 OM OM fun v5 W5 o5 k5 => ?_
  have i25 := i24.keep k5 (zac i34 i24 (by decide))
  obtain ⟨a5, c5, rfl⟩ := zab o5
  refine KGO ?_
  refine Yd (i := 0) i25 (by simp) (by rfl) ⟨rfl, by simp, by simp⟩ fun W6 v6 k6 => ?_
  have o6 := zad (D := [3]) o5 k6 (zag i25 (by decide)) (by decide)
  have hoV : ∀ q, own_ (.slice av pre.length cv) q → D + 3 ≤ q := fun q e => by
   obtain ⟨_, _, _, hBq, _⟩ := zat i34 e; exact hBq
  have k36 : Kp W3 W6 (fun q => D + 3 ≤ q ∨ q = b3) := ((k_W4.of_none).trans' (k5.mono fun q _ e => .inl (hoV q e))).trans' (k6.mono fun q _ e => .inr e)
  refine KGO ?_
  refine ⟨⟨Rec2.of k36 OM (by rintro (e | e) <;> omega) (by rintro (e | e) <;> omega), ⟨?_, _, v6, o6⟩, fun q hq => ?_⟩⟩
  ·exact (i1.trans (c := one_ b3) k3 fun q hq e => (by exfalso; have e : q = w1.heap.size + 1 := e; omega)).trans k36 fun q hq e => by
    rcases e with e | e
    ·exfalso; omega
    exact e
  exact (k36.block q OM (by rintro (e | e) <;> omega)).trans (k3.block q OM (fun e => by have e : q = w1.heap.size + 1 := e; omega))
 ·rintro xs W hS ⟨i1, vt, i2, i3⟩ hsz hd
  obtain ⟨av, cv, rfl⟩ := zab i3
  have a3 := i2.at
  have qW := Yb W n_
  refine GW ?_
  refine KGO ?_
  have hAll : AllD [w1.heap.size] W := ⟨by simp, fun q hq => by rw [yac.1 hq]; exact hd⟩
  refine ⟨hAll, fun wz kz => ?_⟩
  have hnD : ∀ Ds : List TypeId, ∀ q, q < W.heap.size → q ∈ [w1.heap.size] → notD Ds W q := fun Ds q _ hq cs T z hh => by
   rw [yac.1 hq, hd] at hh; cases hh
  have oz := zad (D := [3]) i3 kz (hnD _) (by decide)
  have Kz : Kp w wz n_ := (keeps_new k_w1 i1 OM).trans kz fun q hq e => by have e := yac.1 e; omega
  refine GW ?_
  refine KGO ?_
  refine GW ?_
  exact ⟨_, xs, rfl, hS, own_base oz OM, Kz⟩
 rintro c pre W h; exact h.elim
end
section
variable {w : World}
theorem zqn {b mb : Nat} {m : GM Int} (hv : VarK w b 165 [.map (some mb)]) (hm : GMapO (Value.int .i64) w mb m) : zjc 204 #[.pointer (some ⟨b, 0, none⟩)] mb (m.map (·.1)) w := by
 intro L J Jx W hkW hJs hJk hY hJ0
 have vW := hv.keep0 hkW
 have mW := hm.keep hkW (fun e => e)
 have aW := vW.at
 have qW := Yb W n_
 show Calls Tryz.prog _ #[.func (.yield L) #[] #[], .pointer (some ⟨b, 0, none⟩)] W _
 refine zaa (args := [.func (.yield L) #[] #[], .pointer (some ⟨b, 0, none⟩)]) Tryz.func204 rfl NL ?_; refine GW ?_
 refine KGO ?_
 refine RunV.rangeG Tryz.underlying165 mW fun w1 hr k1 z1 => ?_
 obtain ⟨rb, hrb⟩ : ∃ rb, W.heap.size = rb := ⟨_, rfl⟩
 rw [hrb] at hr hJk hY hJs ⊢
 refine KGO ?_
 have hmb : mb < rb := by have := mW.g.lt; omega
 have hJ1 : J [] w1 := hJk _ _ _ hJ0 k1.of_none
 refine Yc (ι := List Int × GM Int) (fun _ => [(0, .func (.yield L) #[] #[]), (5, .pointer (some ⟨rb, 0, none⟩))])
  (fun i wr => J i.1 wr ∧ zbZ (Value.int .i64) wr mb rb i.2 ∧ (i.1 ++ i.2.map (·.1)).Perm (m.map (·.1))) (fun i => i.2.length) ([], m) FR
  ⟨hJ1, hr, List.Perm.refl _⟩ ?_
 rintro ⟨pre, left⟩ gg wr ⟨hj, hg, hp⟩
 dsimp only at hj hg hp
 refine GW ?_
 refine KGO ?_
 refine RunV.nextG hg (fun hl w2 k2 z2 => ?_) (fun pa q po w2 hl hr2 k2 z2 hent => ?_)
 ·subst hl
  have hj2 := hJk _ _ _ hj k2.of_none
  refine KGO ?_
  exact ⟨⟨_, rfl⟩, .inl ⟨pre, by simpa using hp, hj2⟩⟩
 obtain ⟨q1, q2⟩ := q
 subst hl
 have hj2 := hJk _ _ _ hj k2
 refine KGO ?_
 refine Ye hent ?_
 refine KGO ?_
 have hp2 : (pre ++ q1 :: (pa ++ po).map (·.1)).Perm (m.map (·.1)) := by
  refine List.Perm.trans ?_ hp
  rw [yaL, yaL, yas]
  exact List.Perm.append_left pre List.perm_middle.symm
 have hsz := hr2.lt
 have hy := hY pre q1 w2 hj2 ⟨⟨_, hp2⟩, OM⟩
 refine YieldS.of hy ?_
 rintro v wT (⟨rfl, hJT, hsame⟩ | ⟨rfl, hJT⟩)
 ·refine GW ?_
  refine KGO ?_
  exact ⟨(pre ++ [q1], pa ++ po), FR, ⟨hJT, zbZ.same hr2 ((hJs _ _ hJT).2.trans (hJs _ _ hj2).2.symm) (hsame rb rfl), by simpa using hp2⟩, by simp⟩
 refine GW ?_
 refine KGO ?_
 exact ⟨⟨_, rfl⟩, .inr ⟨_, hJT⟩⟩
theorem zou {a b : List Int} (h : a.Perm b) : (a.mergeSort fun x y => decide (x ≤ y)) = b.mergeSort fun x y => decide (x ≤ y) := by
 have tr : ∀ x y z : Int, decide (x ≤ y) = true → decide (y ≤ z) = true → decide (x ≤ z) = true := fun x y z h1 h2 => by
  have := of_decide_eq_true h1; have := of_decide_eq_true h2; exact decide_eq_true OM
 have tt : ∀ x y : Int, (decide (x ≤ y) || decide (y ≤ x)) = true := fun x y => by
  rcases Int.le_total x y with h | h <;> simp [h]
 refine List.Perm.eq_of_pairwise (le := fun x y => decide (x ≤ y) = true) (fun x y _ _ h1 h2 => by have := of_decide_eq_true h1; have := of_decide_eq_true h2; omega) (ybL tr tt a) (ybL tr tt b) (((List.mergeSort_perm _ _).trans h).trans (List.mergeSort_perm _ _).symm)
theorem mk_B {mb : Nat} : Calls Tryz.prog 145 #[.map (some mb)] w fun r w' => ∃ b, r = .returned (.func (.func 211) #[] #[.pointer (some ⟨b, 0, none⟩)]) ∧ VarK w' b 143 [.map (some mb)] ∧ Kp w w' n_ := by
 refine zaa (args := [.map (some mb)]) Tryz.func145 rfl NL ?_; refine GW ?_
 obtain ⟨a_b1, v_b1, k_w1, z_w1, r_w1⟩ := new5 w 143 ([.map (some mb)])
 generalize w.alloc (.cells (List.toArray ([.map (some mb)])) 143) = w1 at *
 generalize hs_b1 : w.heap.size = b1 at *
 refine KGO ?_
 exact ⟨b1, rfl, v_b1, k_w1⟩
theorem mk_L {mb : Nat} : Calls Tryz.prog 141 #[.map (some mb)] w fun r w' => ∃ b, r = .returned (.func (.func 204) #[] #[.pointer (some ⟨b, 0, none⟩)]) ∧ VarK w' b 165 [.map (some mb)] ∧ Kp w w' n_ := by
 refine zaa (args := [.map (some mb)]) Tryz.func141 rfl NL ?_; refine GW ?_
 obtain ⟨a_b1, v_b1, k_w1, z_w1, r_w1⟩ := new5 w 165 ([.map (some mb)])
 generalize w.alloc (.cells (List.toArray ([.map (some mb)])) 165) = w1 at *
 generalize hs_b1 : w.heap.size = b1 at *
 refine KGO ?_
 exact ⟨b1, rfl, v_b1, k_w1⟩
theorem zuv {gf mb : Nat} {lb : Array Value} {ks : List Int} (hgf : ∀ (args : Array Value) (w : World), (callFunc gf args).run Tryz.prog w = .ok (.enter gf args) w) (it : zjc gf lb mb ks w) (hmb : mb < w.heap.size) (hl : ks.length ≤ 1000000000) :
  Calls Tryz.prog 203 #[.func (.func gf) #[] lb] w fun r w' => ∃ v xs, r = .returned v ∧ xs.Perm ks ∧ OwnI w' w.heap.size v xs ∧ Kp w w' n_ := by
 refine zaa (args := [.func (.func gf) #[] lb]) Tryz.func203 rfl NL ?_; refine GW ?_
 refine Ya (Tryz.call237 _ _) (zun (w := w) hgf it hmb hl) ?_
 rintro e w1 ⟨v, xs, rfl, hp, ho, k1⟩
 obtain ⟨a, c, rfl⟩ := zab ho
 refine RT ?_
 refine KGO ?_
 exact ⟨_, xs, rfl, hp, ho, k1⟩
theorem zrX {gf mb : Nat} {lb : Array Value} {ks : List Int} (hgf : ∀ (args : Array Value) (w : World), (callFunc gf args).run Tryz.prog w = .ok (.enter gf args) w) (it : zjc gf lb mb ks w) (hmb : mb < w.heap.size) (hl : ks.length ≤ 1000000000) :
  Calls Tryz.prog 140 #[.func (.func gf) #[] lb] w fun r w' => ∃ v, r = .returned v ∧ OwnI w' w.heap.size v (ks.mergeSort fun x y => decide (x ≤ y)) ∧ Kp w w' n_ := by
 refine zaa (args := [.func (.func gf) #[] lb]) Tryz.func140 rfl NL ?_; refine GW ?_
 refine Ya (Tryz.call203 _ _) (zuv (w := w) hgf it hmb hl) ?_
 rintro e w1 ⟨v, xs, rfl, hp, ho, k1⟩
 have hxl := hp.length_eq
 have hsort : (xs.mergeSort fun x y => decide (x ≤ y)) = ks.mergeSort fun x y => decide (x ≤ y) := zou hp
 obtain ⟨a, c, rfl⟩ := zab ho
 refine RT ?_
 refine KGO ?_
 refine Ya (Tryz.call79 _ _) (srt_I (w := w1) xs ho OM) ?_
 rintro e w2 ⟨rfl, o2, k2⟩
 refine RT ?_
 refine KGO ?_
 rw [hsort] at o2
 exact ⟨_, rfl, o2, k1.trans k2 fun q hq e => (by exfalso; obtain ⟨_, _, _, hB, _⟩ := zat ho e; omega)⟩
end
abbrev Ky := Int × List UInt8
def hadE (es : List Ent) (e : Ent) : Bool := es.any fun x => decide (x.doc = e.doc) && decide (x.field = e.field)
def stepE (es : List Ent) (e : Ent) : List Ent := if countsE e = true ∧ hadE es e = false then es ++ [e] else es
def keptE (l : List Ent) : List Ent := l.foldl stepE []
theorem zmp (l : List Ent) (e : Ent) : keptE (l ++ [e]) = stepE (keptE l) e := by unfold keptE; rw [List.foldl_append]; rfl
theorem zhj {es : List Ent} {e : Ent} : hadE es e = true ↔ ∃ x ∈ es, x.doc = e.doc ∧ x.field = e.field := by
 unfold hadE; simp [List.any_eq_true]
structure Kept (es : List Ent) : Prop where
 ok : ∀ e ∈ es, countsE e = true
 sp : es.Pairwise fun a b => ¬ (a.doc = b.doc ∧ a.field = b.field)
theorem Kept.nil : Kept [] := ⟨(fun _ h => by cases h), List.Pairwise.nil⟩
theorem Kept.step {es : List Ent} (h : Kept es) (e : Ent) : Kept (stepE es e) := by
 unfold stepE
 split
 ·rename_i hc
  refine ⟨fun x hx => ?_, yaG.2 ⟨h.sp, ybW _ _, fun a ha b hb hab => ?_⟩⟩
  ·rcases yaj.1 hx with hx | hx
   ·exact h.ok x hx
   rw [yac.1 hx]; exact hc.1
  rw [yac.1 hb] at hab
  have := zhj.2 ⟨a, ha, hab⟩
  rw [hc.2] at this; cases this
 exact h
theorem znA (l : List Ent) : ∀ es, Kept es → Kept (l.foldl stepE es) := by
 induction l with
 | nil => exact fun es h => h
 | cons e l ih => exact fun es h => ih _ (h.step e)
theorem zji (l : List Ent) : Kept (keptE l) := znA l [] Kept.nil
theorem stepE_sub {es : List Ent} {e x : Ent} (h : x ∈ stepE es e) : x ∈ es ∨ x = e := by
 unfold stepE at h
 split at h
 ·rcases yaj.1 h with h | h
  ·exact .inl h
  exact .inr (yac.1 h)
 exact .inl h
theorem kept_sub (l : List Ent) : ∀ es x, x ∈ l.foldl stepE es → x ∈ es ∨ x ∈ l := by
 induction l with
 | nil => exact fun es x h => .inl h
 | cons e l ih =>
  intro es x h
  rcases ih _ x h with h | h
  ·rcases stepE_sub h with h | h
   ·exact .inl h
   exact .inr (h ▸ yae)
  exact .inr (yai _ h)
theorem znZ {l : List Ent} {x : Ent} (h : x ∈ keptE l) : x ∈ l := by
 rcases kept_sub l [] x h with h | h
 ·cases h
 exact h
def posF (w : List UInt8) : Nat → List (List UInt8) → List Int
 | _, [] => []
 | i, x :: r => if x = w then (i : Int) :: posF w (i + 1) r else posF w (i + 1) r
theorem posF_snoc (w x : List UInt8) : ∀ (i : Nat) (l : List (List UInt8)), posF w i (l ++ [x]) = posF w i l ++ if x = w then [((i + l.length : Nat) : Int)] else []
 | i, [] => by
  show (if x = w then _ else _) = _
  split <;> simp [posF]
 | i, y :: l => by
  show (if y = w then (i : Int) :: posF w (i + 1) (l ++ [x]) else posF w (i + 1) (l ++ [x])) = (if y = w then _ else _) ++ _
  rw [posF_snoc w x (i + 1) l, yab, show i + 1 + l.length = i + (l.length + 1) by omega]
  split <;> rfl
theorem zhR (w : List UInt8) : ∀ (i : Nat) (l : List (List UInt8)), ∀ n ∈ posF w i l, (i : Int) ≤ n ∧ n < ((i + l.length : Nat) : Int)
 | i, [], n, h => by cases h
 | i, y :: l, n, h => by
  unfold posF at h
  rw [yab]
  split at h
  ·rcases yah.1 h with rfl | h
   ·omega
   have := zhR w (i + 1) l n h; omega
  have := zhR w (i + 1) l n h; omega
theorem zhW (w : List UInt8) : ∀ (i : Nat) (l : List (List UInt8)), AscB ltI (posF w i l)
 | i, [] => .nil
 | i, y :: l => by
  unfold posF
  split
  ·exact List.Pairwise.cons (fun n hn => decide_eq_true (by have := zhR w (i + 1) l n hn; omega)) (zhW w (i + 1) l)
  exact zhW w (i + 1) l
theorem zhD (w : List UInt8) : ∀ (i : Nat) (l : List (List UInt8)), (posF w i l).length ≤ l.length
 | i, [] => yag _
 | i, y :: l => by
  unfold posF
  have := zhD w (i + 1) l
  split <;> simp <;> omega
theorem posF_mem (w : List UInt8) : ∀ (i : Nat) (l : List (List UInt8)), posF w i l ≠ [] → w ∈ l
 | i, [], h => absurd rfl h
 | i, y :: l, h => by
  unfold posF at h
  split at h
  ·rename_i e; rw [e]; exact yae
  exact yai _ (posF_mem w (i + 1) l h)
def partE (ws : List (List UInt8)) (d f : Int) (k : Ky) (d' : Int) : List Int := if d' = d ∧ k.1 = f then posF k.2 0 ws else []
def placesE (es : List Ent) (k : Ky) (d : Int) : List Int := es.flatMap fun e => partE (wordsOf e.text) e.doc e.field k d
theorem zjf (es : List Ent) (e : Ent) (k : Ky) (d : Int) : placesE (es ++ [e]) k d = placesE es k d ++ partE (wordsOf e.text) e.doc e.field k d := by
 unfold placesE; rw [List.flatMap_append]; simp
theorem partE_nil (d f : Int) (k : Ky) (d' : Int) : partE [] d f k d' = [] := by unfold partE; split <;> rfl
def updF (f : Ky → Int → List Int) (k : Ky) (d : Int) (x : Int) : Ky → Int → List Int := fun k' d' => if k' = k ∧ d' = d then f k d ++ [x] else f k' d'
theorem zng (g : Ky → Int → List Int) (ws : List (List UInt8)) (i : Nat) (hi : i < ws.length) (d f : Int) :
  updF (fun k d' => g k d' ++ partE (ws.take i) d f k d') (f, ws[i]) d (i : Nat) = fun k d' => g k d' ++ partE (ws.take (i + 1)) d f k d' := by
 funext k d'
 obtain ⟨k1, k2⟩ := k
 unfold updF partE
 dsimp only
 rw [yad hi, posF_snoc, yar, yaJ OM, yaU]
 by_cases h1 : d' = d ∧ k1 = f
 ·obtain ⟨rfl, rfl⟩ := h1
  by_cases h2 : k2 = ws[i]
  ·subst h2; simp
  have e1 : ¬ ((k1, k2) = (k1, ws[i]) ∧ d' = d') := fun h => h2 (by injection h.1)
  have e2 : ¬ ws[i] = k2 := fun h => h2 h.symm
  simp [e2]
  exact fun h => absurd h h2
 have e1 : ¬ ((k1, k2) = (f, ws[i]) ∧ d' = d) := fun h => h1 ⟨h.2, by injection h.1⟩
 rw [if_neg e1, if_neg h1, if_neg h1]
theorem zbw {es : List Ent} (h : Kept es) (k : Ky) (d : Int) (hne : placesE es k d ≠ []) : ∃ e ∈ es, e.doc = d ∧ e.field = k.1 ∧ placesE es k d = posF k.2 0 (wordsOf e.text) ∧ k.2 ∈ wordsOf e.text := by
 induction es with
 | nil => exact absurd rfl hne
 | cons e es ih =>
  obtain ⟨h1, h2⟩ := yam.1 h.sp
  have hk : Kept es := ⟨fun x hx => h.ok x (yai _ hx), h2⟩
  have hc : placesE (e :: es) k d = partE (wordsOf e.text) e.doc e.field k d ++ placesE es k d := by unfold placesE; rw [List.flatMap_cons]
  rw [hc] at hne ⊢
  by_cases hp : d = e.doc ∧ k.1 = e.field
  ·have h0 : placesE es k d = [] := by
    by_cases hz : placesE es k d = []
    ·exact hz
    obtain ⟨x, hx, hd, hf, _⟩ := ih hk hz
    exact absurd ⟨OM, by rw [← hp.2, hf]⟩ (h1 x hx)
   rw [h0, yaA] at hne ⊢
   have e1 : partE (wordsOf e.text) e.doc e.field k d = posF k.2 0 (wordsOf e.text) := if_pos hp
   rw [e1] at hne ⊢
   exact ⟨e, yae, hp.1.symm, hp.2.symm, rfl, posF_mem _ _ _ hne⟩
  have e1 : partE (wordsOf e.text) e.doc e.field k d = [] := if_neg hp
  rw [e1, yaT] at hne ⊢
  obtain ⟨x, hx, r⟩ := ih hk hne
  exact ⟨x, yai _ hx, r⟩
structure Built (s : Sgm) (es : List Ent) : Prop where
 right : rightS s = true
 docs : ∀ d, d ∈ s.docs ↔ ∃ e ∈ es, e.doc = d
 posts : ∀ k d, atD (postsT s.terms k) d = placesE es k d
theorem Built.uniq {s t : Sgm} {es : List Ent} (hs : Built s es) (ht : Built t es) : s = t :=
 zsA hs.right ht.right (zce stoI _ _ (zah.1 hs.right).1.1 (zah.1 ht.right).1.1 fun z => (hs.docs z).trans (ht.docs z).symm)
  fun k => znu (zaH _ _) (zaH _ _) fun d => (hs.posts k d).trans (ht.posts k d).symm
end Go.Proofs.YtennokckmjcefaaGreatDoor
