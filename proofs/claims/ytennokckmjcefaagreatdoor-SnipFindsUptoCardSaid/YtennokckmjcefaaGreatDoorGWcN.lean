/- Helper lemmas that the proved statement rests on; no conditions of their own. -/
import Derived.Test.YtennokckmjcefaaGreatDoorGMh6
set_option linter.unusedVariables false
set_option maxRecDepth 100000
namespace Go.Vc
open Go Go.Pw Go.RowKit
section
variable {P : Program} {n : Nat} {K : Exit → Fr → World → Prop} {ps : Array Tmp} {assign body : Code} {t : List It} {g : Operand} {fg : Nat → Value} {dl : DL} {w : World} {gf : Nat} {lb : Array Value} {α : Type}
theorem Range.introN (enc : α → List Value) (hg : ev ⟨fg, dl⟩ g = .func (.func gf) #[] lb) (hgf : ∀ args w, (callFunc gf args).run P w = .ok (.enter gf args) w)
  (hpa : plainC assign = true) (hpb : plainC body = true) (hps : (ps.toList.all fun p => Nat.ble (p + 1) n) = true) (hen : ∀ x, (enc x).length = ps.size)
  (cI : Nat → Prop) (hcI : ∀ b, cI b → b ≠ w.heap.size ∧ b ≠ w.heap.size + 1) (I : List α → World → Prop) (Ix : Code → List α → World → Prop) (S : List α → Prop) (Nx : List α → α → World → Prop)
  (hI : ∀ pre W W', I pre W → w.heap.size + 2 ≤ W.heap.size → Kp W W' (fun b => cI b ∨ b = w.heap.size + 1) → I pre W')
  (hIx : ∀ c pre W W', Ix c pre W → w.heap.size + 2 ≤ W.heap.size → Kp W W' (fun b => cI b ∨ b = w.heap.size + 1) → Ix c pre W')
  (h0 : ∀ W, Kp w W n_ → W.heap.size = w.heap.size + 2 → I [] W)
  (iter : ∀ J Jx : List α → World → Prop, (∀ pre W, J pre W → I pre W ∧ w.heap.size + 2 ≤ W.heap.size) → (∀ pre W W', J pre W → Kp W W' cI → J pre W') → (∀ pre W W', Jx pre W → Kp W W' cI → Jx pre W') →
   (∀ pre x W, J pre W → Nx pre x W → YieldS P (w.heap.size + 1) (enc x) W fun v W' => (v = .bool true ∧ J (pre ++ [x]) W' ∧ SameB cI W W') ∨ (v = .bool false ∧ Jx (pre ++ [x]) W')) →
   ∀ W, Kp w W n_ → W.heap.size = w.heap.size + 2 → J [] W → Calls P gf (#[.func (.yield (w.heap.size + 1)) #[] #[]] ++ lb) W fun e W' => (∃ v, e = .returned v) ∧ ((∃ xs, S xs ∧ J xs W') ∨ ∃ pre, Jx pre W'))
  (round : ∀ pre x W, I pre W → Nx pre x W → w.heap.size + 2 ≤ W.heap.size → Sat P n (asgK P n w.heap.size (fun p W' => I p W' ∧ SameB cI W W') Ix (pre ++ [x]) W body) .normal [.code assign] (putPs ps.toList (enc x) ⟨fg, .nil⟩) W)
  (done : ∀ xs W, S xs → I xs W → w.heap.size + 2 ≤ W.heap.size → W.heap[w.heap.size]? = some (.deferred (some [])) → Sat P n K .normal t ⟨fg, .of (w.heap.size :: dl.toL)⟩ W)
  (stop : ∀ c pre W, Ix c pre W → w.heap.size + 2 ≤ W.heap.size → W.heap[w.heap.size]? = some (.deferred (some [])) → Sat P n K .normal (.code c :: t) ⟨fg, .of (w.heap.size :: dl.toL)⟩ W) :
  Range P n K g ps assign body t ⟨fg, dl⟩ w := by
 refine ⟨fun hf r hr => ?_⟩
 obtain rfl : r = none := by
  rcases hr with h | h
  ·exact h
  ·cases h
 refine wpIn_rangeFunc ?_
 intro fn _
 generalize hD : w.heap.size = D at *
 obtain ⟨rec, hrec⟩ : ∃ rec : Go.Loop, rec = { state := .ready, pending := none, fn := fn, tmps := frArr n ⟨fg, dl⟩, params := ps, assign := assign, body := body, defers := D } := ⟨_, rfl⟩
 obtain ⟨W1, hW1⟩ : ∃ W1, (w.alloc (.deferred (some []))).alloc (.loop rec) = W1 := ⟨_, rfl⟩
 have hs1 : W1.heap.size = D + 2 := by rw [← hW1]; simp [hD]
 have hk1 : Kp w W1 n_ := by rw [← hW1]; exact ((Kp.refl w n_).alloc _).alloc _
 have hL1 : W1.heap[D + 1]? = some (.loop rec) := by
  rw [← hW1, ← hD]; have := World.alloc_heap_new (w.alloc (.deferred (some []))) (.loop rec); rwa [World.size_alloc] at this
 have hD1 : W1.heap[D]? = some (.deferred (some [])) := by
  rw [← hW1, ← hD]; exact (Below.heap_alloc _ _ _ (by simp)).trans (World.alloc_heap_new w _)
 refine ⟨D + 1, [{ target := .collected D, args := #[] }], W1, { target := .fn (.func gf) lb, args := #[.func (.yield (D + 1)) #[] #[]] }, W1, gf,
  #[.func (.yield (D + 1)) #[] #[]] ++ lb, W1, ?_, ?_, fun _ _ => trivial, ?_, fun h => by simp [RW, Fence.wide] at h, ?_⟩
 ·have := run_enterLoop_outer (P := P) (w := w) fn (frArr n ⟨fg, dl⟩) ps assign body
  rw [hD, ← hrec, hW1] at this
  exact this
 ·have he : (act n ⟨fg, dl⟩).eval g = .func (.func gf) #[] lb := by rw [zbH hf]; exact hg
  simp only [resolve, he]
  simp [go_sem]
 ·simp [invoke, go_sem, hgf]
 ·refine zeD ?_
  have keepL : ∀ {W W' : World} {k : Nat} {o : Obj}, Kp W W' cI → W.heap[k]? = some o → k = D ∨ k = D + 1 → W'.heap[k]? = some o := fun {W W' k o} hk ho hle =>
   (hk.block k (Array.getElem?_eq_some_iff.1 ho).1 (fun h => by have := hcI _ h; omega)).trans ho
  have hlt : ∀ {W : World} {k : Nat} {o : Obj}, W.heap[k]? = some o → k < W.heap.size := fun ho => (Array.getElem?_eq_some_iff.1 ho).1
  refine (iter (fun pre W => I pre W ∧ W.heap[D + 1]? = some (.loop rec) ∧ W.heap[D]? = some (.deferred (some [])))
   (fun pre W => ∃ c, Ix c pre W ∧ W.heap[D + 1]? = some (.loop { rec with state := .done, pending := some c }) ∧ W.heap[D]? = some (.deferred (some [])))
   (fun pre W h => ⟨h.1, by have := hlt h.2.1; omega⟩)
   (fun pre W W' h k => ⟨hI pre W W' h.1 (by have := hlt h.2.1; omega) (k.mono fun _ _ h => .inl h), keepL k h.2.1 (.inr rfl), keepL k h.2.2 (.inl rfl)⟩)
   (fun pre W W' h k => by
    obtain ⟨c, h1, h2, h3⟩ := h
    exact ⟨c, hIx c pre W W' h1 (by have := hlt h2; omega) (k.mono fun _ _ h => .inl h), keepL k h2 (.inr rfl), keepL k h3 (.inl rfl)⟩)
   ?_ W1 hk1 hs1 ⟨h0 W1 hk1 hs1, hL1, hD1⟩).mono ?_
  ·rintro pre x W ⟨hi, hl, hd⟩ hnx
   have hsz : D + 2 ≤ W.heap.size := by have := hlt hl; omega
   refine zgx hf hrec hl (hen x) hps hpa hpb (round pre x W hi hnx hsz) ?_ ?_
   ·rintro W3 W4 h3 h4 h5 rfl
    have hs3 := hlt h3
    refine .inl ⟨rfl, ⟨hI _ _ _ h5.1 (by omega) ((zav _ _ _).mono fun b _ h => .inr h), World.putObj_heap_same hs3, (World.putObj_heap_other (by omega)).trans (h4.trans hd)⟩, fun b hb => ?_⟩
    have := hcI b hb
    exact (World.putObj_heap_other (by omega)).trans (h5.2 b hb)
   ·rintro c W3 W4 h3 h4 h5 rfl
    have hs3 := hlt h3
    refine .inr ⟨rfl, c, hIx _ _ _ _ h5 (by omega) ((zav _ _ _).mono fun b _ h => .inr h), World.putObj_heap_same hs3, ?_⟩
    exact (World.putObj_heap_other (by omega)).trans (h4.trans hd)
  ·rintro e W2 ⟨⟨v, rfl⟩, (⟨xs, hS, hi, hl, hd⟩ | ⟨pre, c, hi, hl, hd⟩)⟩
   ·have hsz := hlt hl
    refine ⟨none, _, by have := run_endLoop (P := P) hl (by rw [hrec]; simp); rw [show rec.pending = none from by rw [hrec]] at this; exact this, ?_⟩
    have h1 := done xs (W2.putObj (D + 1) (.loop { rec with state := .exhausted, pending := none })) hS (hI _ _ _ hi (by omega) ((zav _ _ _).mono fun b _ h => .inr h)) (by rw [zba]; omega) ((World.putObj_heap_other (by omega)).trans hd)
    exact ⟨⟨fg, .of (D :: dl.toL)⟩, hf, rfl, h1.h hf⟩
   ·have hsz := hlt hl
    refine ⟨some c, _, run_endLoop (P := P) hl (by simp), ?_⟩
    have h1 := stop c pre (W2.putObj (D + 1) (.loop { rec with state := .exhausted, pending := some c })) (hIx _ _ _ _ hi (by omega) ((zav _ _ _).mono fun b _ h => .inr h)) (by rw [zba]; omega) ((World.putObj_heap_other (by omega)).trans hd)
    exact (h1.h hf : c.wpX P (LiftE n (after P n t K)) (act n ⟨fg, .of (D :: dl.toL)⟩) _) none (.inl rfl)
end
set_option linter.unusedSectionVars false
section
variable {κ : Type} [DecidableEq κ] {enc : κ → Value} {P : Program} {w : World} {b r : Nat} {m left : GM κ} {t kt et : TypeId} {K : Value → World → Prop}
def GMapO (enc : κ → Value) (w : World) (b : Nat) (m : GM κ) : Prop := ∃ es clock, w.heap[b]? = some (.map es clock) ∧ es.toList.map entG = m.map (gmP enc) ∧ (es.toList.map (·.born)).Nodup ∧ ∀ e ∈ es.toList, e.born < clock
theorem GMapO.g (h : GMapO enc w b m) : GMap enc w b m := by obtain ⟨es, c, h1, h2, _⟩ := h; exact ⟨es, c, h1, h2⟩
theorem GMapO.keep {w' : World} {c : Nat → Prop} (h : GMapO enc w b m) (k : Kp w w' c) (hc : ¬ c b) : GMapO enc w' b m := by
 have hlt := h.g.lt
 obtain ⟨es, cl, hb, he⟩ := h
 exact ⟨es, cl, (k.block b hlt hc).trans hb, he⟩
theorem GMapO.new (w : World) : GMapO enc (w.alloc (.map #[] 0)) w.heap.size ([] : GM κ) := ⟨#[], 0, heap_alloc_new w _, rfl, List.nodup_nil, fun _ h => by cases h⟩
theorem zeM {es : List MapEntry} {d : Nat} {f : MapEntry → MapEntry} (hf : ∀ e, (f e).born = e.born) : (es.modify d f).map (·.born) = es.map (·.born) := by
 induction es generalizing d with
 | nil => simp
 | cons e es ih => cases d with
  | zero => simp [hf]
  | succ d => simp [ih]
theorem RunU.updGO {K : World → Prop} (ok : KeyOk P kt enc) (ht : P.underlying t = some (.map kt et)) (h : GMapO enc w b m) (s : κ) {e : Value} (he : e = enc s) (x : Value) (k : ∀ w', GMapO enc w' b (m.put s x) → Kp w w' (one_ b) → K w') :
  RunU P (Instr.mapUpdate t (.map (some b)) e x) w K := by
 subst he
 have hlt := h.g.lt
 obtain ⟨es, clock, hb, he, hnd, hlc⟩ := h
 cases hi : m.idx s 0 with
 | none =>
  obtain ⟨_, h2, _⟩ := GM.idx_none s m 0 hi
  refine ⟨_, ?_, k (setOG w b (.map (es.push { key := enc s, val := x, born := clock }) (clock + 1))) ⟨_, _, zcm _ hlt, ?_, ?_, ?_⟩ (zbR _)⟩
  ·simp [Instr.mapUpdate, zat ht, getObj, setObj, Sem.run, hb, ok.check, ok.find w s es.toList m he, hi, setOG]
  ·rw [h2 x]; simp [he, entG, gmP]
  ·simp only [Array.toList_push, List.map_append, List.map_cons, List.map_nil]
   refine List.nodup_append.2 ⟨hnd, by simp, ?_⟩
   intro a ha c hc e
   simp only [List.mem_singleton] at hc
   obtain ⟨e', h1, h2⟩ := List.mem_map.1 ha
   have := hlc e' h1
   omega
  ·intro e' h'
   simp only [Array.toList_push, List.mem_append, List.mem_singleton] at h'
   rcases h' with h' | rfl
   ·have := hlc e' h'; omega
   ·exact Nat.lt_succ_self _
 | some jv =>
  obtain ⟨j, v⟩ := jv
  obtain ⟨d, rfl, hd, _, hkey, hmod, _⟩ := GM.idx_some s es.toList m 0 j v he hi
  refine ⟨_, ?_, k (setOG w b (.map (es.modify d fun e => { e with key := enc s, val := x }) clock)) ⟨_, _, zcm _ hlt, ?_, ?_, ?_⟩ (zbR _)⟩
  ·have hk2 : ((es[d]?).map (·.key)).getD (enc s) = enc s := by
    rw [show es[d]? = es.toList[d]? from by simp, hkey]; rfl
   simp only [Instr.mapUpdate, Sem.run_bind, zat ht, Result.andThen_ok, getObj, Sem.run, hb, ok.check, ok.find w s es.toList m he, hi]
   simp [Instr.keyThatStays, hk2, ok.bits, setObj, Sem.run, setOG, hb]
  ·rw [Array.toList_modify]; exact hmod x
  ·rw [Array.toList_modify, zeM (f := fun e => { e with key := enc s, val := x }) (fun _ => rfl)]; exact hnd
  ·intro e' h'
   rw [Array.toList_modify] at h'
   have : e'.born ∈ (es.toList.modify d fun e => { e with key := enc s, val := x }).map (·.born) := List.mem_map_of_mem h'
   rw [zeM (f := fun e => { e with key := enc s, val := x }) (fun _ => rfl)] at this
   obtain ⟨e2, h1, h2⟩ := List.mem_map.1 this
   rw [← h2]; exact hlc e2 h1
def GRange (enc : κ → Value) (w : World) (b r : Nat) (left : GM κ) : Prop := ∃ es clock seen, w.heap[b]? = some (.map es clock) ∧ w.heap[r]? = some (.mapIter (some b) clock seen clock) ∧ (es.toList.map (·.born)).Nodup ∧ (∀ e ∈ es.toList, e.born < clock) ∧
 (es.toList.filter fun e => !seen.contains e.born).map entG = left.map (gmP enc)
theorem GRange.lt (h : GRange enc w b r left) : b < w.heap.size ∧ r < w.heap.size := by
 obtain ⟨es, c, s, h1, h2, _⟩ := h
 exact ⟨(Array.getElem?_eq_some_iff.1 h1).1, (Array.getElem?_eq_some_iff.1 h2).1⟩
theorem GRange.keep {w' : World} {c : Nat → Prop} (h : GRange enc w b r left) (k : Kp w w' c) (hb : ¬ c b) (hr : ¬ c r) : GRange enc w' b r left := by
 have hlt := h.lt
 obtain ⟨es, cl, s, h1, h2, h3⟩ := h
 exact ⟨es, cl, s, (k.block b hlt.1 hb).trans h1, (k.block r hlt.2 hr).trans h2, h3⟩
theorem RunV.rangeG (ht : P.underlying t = some (.map kt et)) (h : GMapO enc w b m) (k : ∀ w', GRange enc w' b w.heap.size m → Kp w w' n_ → w'.heap.size = w.heap.size + 1 → K (.pointer (some ⟨w.heap.size, 0, none⟩)) w') : RunV P (Instr.range t (.map (some b))) w K := by
 have hlt := h.g.lt
 obtain ⟨es, clock, hb, he, hnd, hlc⟩ := h
 refine ⟨_, w.alloc (.mapIter (some b) clock #[] clock), ?_, k _ ⟨es, clock, #[], (Below.heap_alloc _ _ _ hlt).trans hb, heap_alloc_new w _, hnd, hlc, ?_⟩ ((Kp.refl _ _).alloc _) (by simp)⟩
 ·simp only [Instr.range, Sem.run_bind, zat ht, Result.andThen_ok, getObj, Sem.run, hb, Sem.run_pure]
  rfl
 ·rw [List.filter_eq_self.2 (fun x _ => by simp)]; exact he
theorem ziN {es : List MapEntry} {seen : Array Nat} {pre post : List MapEntry} {e : MapEntry} (hnd : (es.map (·.born)).Nodup) (h : (es.filter fun e => !seen.contains e.born) = pre ++ e :: post) :
  (es.filter fun e' => !(seen.push e.born).contains e'.born) = pre ++ post := by
 have h1 : (es.filter fun e' => !(seen.push e.born).contains e'.born) = (es.filter fun e => !seen.contains e.born).filter fun e' => !decide (e'.born = e.born) := by
  rw [List.filter_filter]
  refine List.filter_congr fun x _ => ?_
  simp only [Array.contains_push, Bool.not_or]
  rw [Bool.and_comm]
  congr 1
 rw [h1, h]
 have hnd2 : ((pre ++ e :: post).map (·.born)).Nodup := by
  rw [← h]; exact hnd.sublist (List.Sublist.map _ List.filter_sublist)
 simp only [List.map_append, List.map_cons, List.nodup_append, List.nodup_cons] at hnd2
 obtain ⟨_, ⟨hp, _⟩, hd⟩ := hnd2
 simp only [List.filter_append, List.filter_cons, decide_true, Bool.not_true]
 have f1 : pre.filter (fun e' => !decide (e'.born = e.born)) = pre := List.filter_eq_self.2 fun x hx => by
  have := hd x.born (List.mem_map_of_mem hx) e.born List.mem_cons_self
  simpa using this
 have f2 : post.filter (fun e' => !decide (e'.born = e.born)) = post := List.filter_eq_self.2 fun x hx => by
  have : x.born ≠ e.born := fun h => hp (h ▸ List.mem_map_of_mem hx)
  simpa using this
 rw [f1, f2]; rfl
theorem zlv {es : List MapEntry} {e : MapEntry} (hnd : (es.map (·.born)).Nodup) (he : e ∈ es) : es.find? (fun x => x.born == e.born) = some e := by
 induction es with
 | nil => cases he
 | cons a l ih =>
  rw [List.map_cons, List.nodup_cons] at hnd
  rw [List.find?_cons]
  by_cases h : a.born = e.born
  ·have hae : a = e := by
    rcases List.mem_cons.1 he with rfl | h2
    ·rfl
    ·exact (hnd.1 (h ▸ List.mem_map_of_mem h2)).elim
   subst hae; simp
  ·have : (a.born == e.born) = false := by simp [h]
   rw [this]
   rcases List.mem_cons.1 he with rfl | h2
   ·exact (h rfl).elim
   ·exact ih hnd.2 h2
theorem zkJ {n : Nat} (hn : 0 < n) (w : World) : ∃ i w1, (choose (.mapNext n)).run P w = .ok i w1 ∧ i < n ∧ w1.heap = w.heap ∧ Kp w w1 n_ := by
 by_cases h : n ≤ 1
 ·exact ⟨0, w, by simp [Question.forced, h], hn, rfl, Kp.refl _ _⟩
 ·exact ⟨w.tape w.drawn (.mapNext n) % n, w.drew, by simp [Question.forced, h, Question.cut], Nat.mod_lt _ hn, rfl, (Kp.refl _ _).drew⟩
theorem RunV.nextG {ty : TypeId} (h : GRange enc w b r left)
  (over : left = [] → ∀ w', Kp w w' n_ → w'.heap.size = w.heap.size → K (.tuple #[.bool false]) w')
  (more : ∀ pre p post w', left = pre ++ p :: post → GRange enc w' b r (pre ++ post) → Kp w w' (one_ r) → w'.heap.size = w.heap.size → (Instr.entry (.pointer (some ⟨r, 0, none⟩))).run P w' = .ok (.tuple #[enc p.1, p.2]) w' → K (.tuple #[.bool true, enc p.1, p.2]) w') : RunV P (Instr.next (.pointer (some ⟨r, 0, none⟩)) false ty) w K := by
 obtain ⟨es, clock, seen, hb, hr, hnd, hlc, hl⟩ := h
 have hrlt : r < w.heap.size := (Array.getElem?_eq_some_iff.1 hr).1
 have hblt : b < w.heap.size := (Array.getElem?_eq_some_iff.1 hb).1
 have hne : b ≠ r := fun e => by subst e; rw [hb] at hr; cases hr
 have hall : (!seen.isEmpty && !es.isEmpty && es.all (fun e => decide (e.born ≥ clock))) = false := by
  cases hes : es.toList with
  | nil =>
   have : es = #[] := by apply Array.ext'; simpa using hes
   subst this; simp
  | cons e l =>
   have h1 := hlc e (by rw [hes]; exact List.mem_cons_self)
   have : es.all (fun e => decide (e.born ≥ clock)) = false := by
    rw [← Array.all_toList, hes]
    simp only [List.all_cons]
    rw [show decide (e.born ≥ clock) = false from by simp; omega]
    rfl
   rw [this]; simp
 have hold : (es.filter fun e => !seen.contains e.born).filter (fun e => decide (e.born < clock)) = es.filter fun e => !seen.contains e.born := by
  apply Array.ext'
  simp only [Array.toList_filter]
  exact List.filter_eq_self.2 fun x hx => by simpa using hlc x (List.mem_filter.1 hx).1
 have hnew : (es.filter fun e => !seen.contains e.born).filter (fun e => decide (e.born ≥ clock)) = #[] := by
  apply Array.ext'
  simp only [Array.toList_filter]
  exact List.filter_eq_nil_iff.2 fun x hx => by have := hlc x (List.mem_filter.1 hx).1; simp; omega
 obtain ⟨old, hO⟩ : ∃ old, (es.filter fun e => !seen.contains e.born) = old := ⟨_, rfl⟩
 have hOl : old.toList = es.toList.filter fun e => !seen.contains e.born := by rw [← hO]; simp
 rw [← hOl] at hl
 rw [hO] at hold hnew
 cases hcase : old.toList with
 | nil =>
  have he : old = #[] := by apply Array.ext'; simpa using hcase
  have hle : left = [] := by rw [hcase] at hl; cases left with | nil => rfl | cons a l => simp at hl
  refine ⟨_, w, ?_, over hle w (Kp.refl _ _) rfl⟩
  simp only [Instr.next, Sem.run_bind, getObj, Sem.run, hr, Result.andThen_ok, hb, hall, Bool.false_eq_true, if_false, hO, hold, hnew]
  rw [he]
  simp [Question.forced]
 | cons e0 l0 =>
  have hpos : 0 < old.size := by rw [← Array.length_toList, hcase]; simp
  obtain ⟨i, w1, hch, hi, hh, hk⟩ := zkJ (P := P) hpos w
  have hil : i < old.toList.length := by simpa using hi
  have hsplit : old.toList = old.toList.take i ++ old[i] :: old.toList.drop (i + 1) := by
   rw [show old[i] = old.toList[i] from by simp, ← List.drop_eq_getElem_cons hil, List.take_append_drop]
  have hlen : left.length = old.toList.length := by have := congrArg List.length hl; simpa using this.symm
  have hill : i < left.length := by omega
  have hls : left = left.take i ++ left[i]'hill :: left.drop (i + 1) := by rw [← List.drop_eq_getElem_cons hill, List.take_append_drop]
  have hent : entG old[i] = gmP enc (left[i]'hill) := by
   have e1 : (old.toList.map entG)[i]? = (left.map (gmP enc))[i]? := by rw [hl]
   rw [List.getElem?_map, List.getElem?_map, List.getElem?_eq_getElem hil, List.getElem?_eq_getElem hill] at e1
   simpa using e1
  simp only [entG, gmP, Prod.mk.injEq] at hent
  refine ⟨_, setOG w1 r (.mapIter (some b) clock (seen.push old[i].born) clock), ?_, more _ _ _ _ hls ⟨es, clock, seen.push old[i].born, ?_, ?_, hnd, hlc, ?_⟩ ?_ ?_ ?_⟩
  ·simp only [Instr.next, Sem.run_bind, getObj, Sem.run, hr, Result.andThen_ok, hb, hall]
   have hne0 : old.isEmpty = false := by simp only [Array.isEmpty, decide_eq_false_iff_not]; omega
   simp only [hO, hold, hnew, hne0, Array.append_empty, Array.size_map, Bool.false_eq_true, if_false, Array.empty_append, Sem.run_bind, Result.andThen_ok, hch]
   simp only [Array.getElem?_map, Array.getElem?_eq_getElem hi, Option.map_some, Sem.run_bind, setObj, Sem.run, Sem.run_pure, ← hent.1, ← hent.2]
   simp [setOG, hh, hr]
  ·rw [← hb, ← hh]; simp [setOG, hne.symm]
  ·exact zcm _ (by rw [hh]; exact hrlt)
  ·rw [ziN hnd (pre := old.toList.take i) (post := old.toList.drop (i + 1)) (by rw [← hOl]; exact hsplit)]
   rw [List.map_append, List.map_append, List.map_take, List.map_take, List.map_drop, List.map_drop, hl]
  ·exact (hk.of_none (c := one_ r)).trans' (zbR _)
  ·simp [setOG, hh]
  ·have h1 : (setOG w1 r (.mapIter (some b) clock (seen.push old[i].born) clock)).heap[r]? = some (.mapIter (some b) clock (seen.push old[i].born) clock) := zcm _ (by rw [hh]; exact hrlt)
   have h2 : (setOG w1 r (.mapIter (some b) clock (seen.push old[i].born) clock)).heap[b]? = some (.map es clock) := by rw [← hb, ← hh]; simp [setOG, hne.symm]
   have hmem : old[i] ∈ es.toList := by
    have : old[i] ∈ old.toList := by rw [show old[i] = old.toList[i] from by simp]; exact List.getElem_mem hil
    rw [hOl] at this; exact (List.mem_filter.1 this).1
   have hf := zlv hnd hmem
   have hf2 : es.find? (fun x => x.born == old[i].born) = some old[i] := by rw [← hf, ← Array.find?_toList]
   simp only [Instr.entry, Sem.run_bind, getObj, Sem.run, h1, Result.andThen_ok, Array.back?_push, h2, bne_self_eq_false, Bool.false_eq_true, if_false, hf2, Sem.run_pure, hent.1, hent.2]
end
end Go.Vc
namespace Go.Proofs.YtennokckmjcefaaGreatDoor
open Go.Shelf Go.RowKit Go.Pw Go.Vc Go.Cs Go.Lib Go.Cd Go.Mg
def spC (p : Int × Int) : List Value := [.int .i64 p.1, .int .i64 p.2]
def encSp (p : Int × Int) : Value := .agg (spC p).toArray
def kyC (p : Int × List UInt8) : List Value := [.int .i64 p.1, .string (str p.2)]
def encKy (p : Int × List UInt8) : Value := .agg (kyC p).toArray
theorem spFields : ∃ a b, (Tryz.prog.fieldsOf 161).toList = [a, b] ∧ a.name ≠ "_" ∧ b.name ≠ "_" ∧ a.type = 3 ∧ b.type = 3 ∧ a.offset = 0 ∧ b.offset = 1 :=
 ⟨_, _, rfl, by decide, by decide, rfl, rfl, rfl, rfl⟩
theorem kyFields : ∃ a b, (Tryz.prog.fieldsOf 164).toList = [a, b] ∧ a.name ≠ "_" ∧ b.name ≠ "_" ∧ a.type = 3 ∧ b.type = 9 ∧ a.offset = 0 ∧ b.offset = 1 :=
 ⟨_, _, rfl, by decide, by decide, rfl, rfl, rfl, rfl⟩
theorem eq_sp (x y : Int × Int) (w : World) : (Op.equalIn (9999 + 1) 161 (encSp x) (encSp y)).run Tryz.prog w = .ok (decide (x = y)) w := by
 unfold encSp
 rw [run_equalIn_agg w 9999 161 _ _ (by rfl) (by kernel_rfl)]
 obtain ⟨a, b, hf, na, nb, ta, tb, oa, ob⟩ := spFields
 rw [hf]
 simp only [Op.eqFields, na, nb, ne_eq, not_false_eq_true, if_true, ta, tb, oa, ob]
 have p0 : (part 3 (spC x).toArray 0).run Tryz.prog w = .ok (.int .i64 x.1) w := by rfl
 have p1 : (part 3 (spC x).toArray 1).run Tryz.prog w = .ok (.int .i64 x.2) w := by rfl
 have q0 : (part 3 (spC y).toArray 0).run Tryz.prog w = .ok (.int .i64 y.1) w := by rfl
 have q1 : (part 3 (spC y).toArray 1).run Tryz.prog w = .ok (.int .i64 y.2) w := by rfl
 have i1 (a b : Int) : (Op.equalIn (9998 + 1) 3 (.int .i64 a) (.int .i64 b)).run Tryz.prog w = .ok (a == b) w := run_equalIn_int w 9998 3 .i64 .i64 a b (by rfl)
 simp only [Sem.run_bind, Sem.run_ite, p0, p1, q0, q1, i1, Result.andThen_ok]
 obtain ⟨x1, x2⟩ := x
 obtain ⟨y1, y2⟩ := y
 dsimp only
 by_cases h1 : x1 = y1 <;> by_cases h2 : x2 = y2 <;> simp [h1, h2]
theorem eq_ky (x y : Int × List UInt8) (w : World) : (Op.equalIn (9999 + 1) 164 (encKy x) (encKy y)).run Tryz.prog w = .ok (decide (x = y)) w := by
 unfold encKy
 rw [run_equalIn_agg w 9999 164 _ _ (by rfl) (by kernel_rfl)]
 obtain ⟨a, b, hf, na, nb, ta, tb, oa, ob⟩ := kyFields
 rw [hf]
 simp only [Op.eqFields, na, nb, ne_eq, not_false_eq_true, if_true, ta, tb, oa, ob]
 have p0 : (part 3 (kyC x).toArray 0).run Tryz.prog w = .ok (.int .i64 x.1) w := by rfl
 have p1 : (part 9 (kyC x).toArray 1).run Tryz.prog w = .ok (.string (str x.2)) w := by rfl
 have q0 : (part 3 (kyC y).toArray 0).run Tryz.prog w = .ok (.int .i64 y.1) w := by rfl
 have q1 : (part 9 (kyC y).toArray 1).run Tryz.prog w = .ok (.string (str y.2)) w := by rfl
 have i1 (a b : Int) : (Op.equalIn (9998 + 1) 3 (.int .i64 a) (.int .i64 b)).run Tryz.prog w = .ok (a == b) w := run_equalIn_int w 9998 3 .i64 .i64 a b (by rfl)
 have s1 (a b : ByteArray) : (Op.equalIn (9998 + 1) 9 (.string a) (.string b)).run Tryz.prog w = .ok (a == b) w := by rfl
 simp only [Sem.run_bind, Sem.run_ite, p0, p1, q0, q1, i1, s1, Result.andThen_ok]
 obtain ⟨x1, x2⟩ := x
 obtain ⟨y1, y2⟩ := y
 dsimp only
 rw [zns]
 by_cases h1 : x1 = y1 <;> by_cases h2 : x2 = y2 <;> simp [h1, h2, zbY]
theorem keySp : KeyOk Tryz.prog 161 encSp := zhh Tryz.underlying161 (fun _ _ => rfl) (fun w a b => eq_sp a b w) (fun e k w => by
  show (Instr.checkKey e (9999 + 1) 161 (.agg (spC k).toArray)).run Tryz.prog w = _
  have p0 : (part 3 (spC k).toArray 0).run Tryz.prog w = .ok (.int .i64 k.1) w := by rfl
  have p1 : (part 3 (spC k).toArray 1).run Tryz.prog w = .ok (.int .i64 k.2) w := by rfl
  have c0 : ∀ z, (Instr.checkKey e 9999 3 (.int .i64 z)).run Tryz.prog w = .ok () w := fun z => by
   show (Instr.checkKey e (9998 + 1) 3 _).run Tryz.prog w = _
   unfold Instr.checkKey
   simp [zat Tryz.underlying3]
  unfold Instr.checkKey
  simp [zat Tryz.underlying161, p0, p1, c0]) (fun k => by simp [encSp, spC, Instr.sameBits])
theorem keyKy : KeyOk Tryz.prog 164 encKy := zhh Tryz.underlying164 (fun _ _ => rfl) (fun w a b => eq_ky a b w) (fun e k w => by
  show (Instr.checkKey e (9999 + 1) 164 (.agg (kyC k).toArray)).run Tryz.prog w = _
  have p0 : (part 3 (kyC k).toArray 0).run Tryz.prog w = .ok (.int .i64 k.1) w := by rfl
  have p1 : (part 9 (kyC k).toArray 1).run Tryz.prog w = .ok (.string (str k.2)) w := by rfl
  have c0 : ∀ z, (Instr.checkKey e 9999 3 (.int .i64 z)).run Tryz.prog w = .ok () w := fun z => by
   show (Instr.checkKey e (9998 + 1) 3 _).run Tryz.prog w = _
   unfold Instr.checkKey
   simp [zat Tryz.underlying3]
  have c1 : ∀ z, (Instr.checkKey e 9999 9 (.string z)).run Tryz.prog w = .ok () w := fun z => by
   show (Instr.checkKey e (9998 + 1) 9 _).run Tryz.prog w = _
   unfold Instr.checkKey
   simp [zat Tryz.underlying9]
  unfold Instr.checkKey
  simp [zat Tryz.underlying164, p0, p1, c0, c1]) (fun k => by simp [encKy, kyC, Instr.sameBits, zns])
structure Ent where
 doc : Int
 field : Int
 text : List UInt8
deriving DecidableEq
def enC (e : Ent) : List Value := [.int .i64 e.doc, .int .i64 e.field, .string (str e.text)]
def countsE (e : Ent) : Bool := decide (1 ≤ e.doc) && decide (e.doc ≤ 1099511627776) && decide (0 < e.field) && decide (e.field < 6)
section
variable {w : World}
theorem znc (e : Ent) : Calls Tryz.prog 139 #[.agg (enC e).toArray] w fun r w' => r = .returned (.bool (countsE e)) ∧ Kp w w' n_ := by
 refine zaa (args := [.agg (enC e).toArray]) Tryz.func139 rfl NL ?_; refine GW ?_
 obtain ⟨a_b3, v_b3, k_w1, z_w1, r_w1⟩ := new5 w 111 (enC e)
 generalize w.alloc (.cells (List.toArray (enC e)) 111) = w1 at *
 generalize hs_b3 : w.heap.size = b3 at *
 have q := Kp.refl w1 n_
 unfold countsE
 by_cases h1 : 1 ≤ e.doc
 ·by_cases h2 : e.doc ≤ 1099511627776
  ·by_cases h3 : 0 < e.field
   ·refine KGO ?_
    exact ⟨zal (by simp [h1, h2, h3]), k_w1⟩
   ·refine KGO ?_
    exact ⟨zal (by simp [h3]), k_w1⟩
  ·refine KGO ?_
   exact ⟨zal (by simp [h2]), k_w1⟩
 ·refine KGO ?_
  exact ⟨zal (by simp [h1]), k_w1⟩
def KeysIt (gf : Nat) (lb : Array Value) (mb : Nat) (ks : List Int) (w : World) : Prop := ∀ (L : Nat) (J Jx : List Int → World → Prop) (W : World), Kp w W n_ → (∀ pre W', J pre W' → W.heap.size ≤ W'.heap.size ∧ W'.heap[mb]? = W.heap[mb]?) → (∀ pre W1 W2, J pre W1 → Kp W1 W2 (one_ W.heap.size) → J pre W2) →
 (∀ pre x W1, J pre W1 → (∃ rest, (pre ++ x :: rest).Perm ks) ∧ W.heap.size + 1 ≤ W1.heap.size → YieldS Tryz.prog L [.int .i64 x] W1 fun v W2 => (v = .bool true ∧ J (pre ++ [x]) W2 ∧ SameB (one_ W.heap.size) W1 W2) ∨ (v = .bool false ∧ Jx (pre ++ [x]) W2)) → J [] W →
 Calls Tryz.prog gf (#[.func (.yield L) #[] #[]] ++ lb) W fun e W' => (∃ v, e = .returned v) ∧ ((∃ xs, xs.Perm ks ∧ J xs W') ∨ ∃ pre, Jx pre W')
theorem GRange.same {κ : Type} {enc : κ → Value} {w w' : World} {b r : Nat} {l : GM κ} (h : GRange enc w b r l) (h1 : w'.heap[b]? = w.heap[b]?) (h2 : w'.heap[r]? = w.heap[r]?) : GRange enc w' b r l := by
 obtain ⟨es, cl, s, g1, g2, g3⟩ := h
 exact ⟨es, cl, s, h1.trans g1, h2.trans g2, g3⟩
theorem zqo {b mb : Nat} {m : GM Int} (hv : VarK w b 143 [.map (some mb)]) (hm : GMapO (Value.int .i64) w mb m) : KeysIt 211 #[.pointer (some ⟨b, 0, none⟩)] mb (m.map (·.1)) w := by
 intro L J Jx W hkW hJs hJk hY hJ0
 have vW := hv.keep0 hkW
 have mW := hm.keep hkW (fun e => e)
 have aW := vW.at
 have qW := Kp.refl W n_
 show Calls Tryz.prog _ #[.func (.yield L) #[] #[], .pointer (some ⟨b, 0, none⟩)] W _
 refine zaa (args := [.func (.yield L) #[] #[], .pointer (some ⟨b, 0, none⟩)]) Tryz.func211 rfl NL ?_; refine GW ?_
 refine KGO ?_
 refine RunV.rangeG Tryz.underlying143 mW fun w1 hr k1 z1 => ?_
 obtain ⟨rb, hrb⟩ : ∃ rb, W.heap.size = rb := ⟨_, rfl⟩
 rw [hrb] at hr hJk hY hJs ⊢
 refine KGO ?_
 have hmb : mb < rb := by have := mW.g.lt; omega
 have hJ1 : J [] w1 := hJk _ _ _ hJ0 k1.of_none
 refine Loop.intro (ι := List Int × GM Int) (fun _ => [(0, .func (.yield L) #[] #[]), (5, .pointer (some ⟨rb, 0, none⟩))])
  (fun i wr => J i.1 wr ∧ GRange (Value.int .i64) wr mb rb i.2 ∧ (i.1 ++ i.2.map (·.1)).Perm (m.map (·.1))) (fun i => i.2.length) ([], m) ⟨rfl, rfl, trivial⟩
  ⟨hJ1, hr, List.Perm.refl _⟩ ?_
 rintro ⟨pre, left⟩ gg wr ⟨hj, hg, hp⟩
 dsimp only at hj hg hp
 refine GW ?_
 refine KGO ?_
 refine RunV.nextG hg (fun hl w2 k2 z2 => ?_) (fun pa q po w2 hl hr2 k2 z2 hent => ?_)
 ·subst hl
  have hj2 := hJk _ _ _ hj k2.of_none
  refine KGO ?_
  exact ⟨⟨_, rfl⟩, .inl ⟨pre, by simpa using hp, hj2⟩⟩
 ·obtain ⟨q1, q2⟩ := q
  subst hl
  have hj2 := hJk _ _ _ hj k2
  refine KGO ?_
  refine RunV.of hent ?_
  refine KGO ?_
  have hp2 : (pre ++ q1 :: (pa ++ po).map (·.1)).Perm (m.map (·.1)) := by
   refine List.Perm.trans ?_ hp
   rw [List.map_append, List.map_append, List.map_cons]
   exact List.Perm.append_left pre List.perm_middle.symm
  have hsz := hr2.lt
  have hy := hY pre q1 w2 hj2 ⟨⟨_, hp2⟩, by omega⟩
  refine YieldS.of hy ?_
  rintro v wT (⟨rfl, hJT, hsame⟩ | ⟨rfl, hJT⟩)
  ·refine GW ?_
   refine KGO ?_
   exact ⟨(pre ++ [q1], pa ++ po), ⟨rfl, rfl, trivial⟩, ⟨hJT, GRange.same hr2 ((hJs _ _ hJT).2.trans (hJs _ _ hj2).2.symm) (hsame rb rfl), by simpa using hp2⟩, by simp⟩
  ·refine GW ?_
   refine KGO ?_
   exact ⟨⟨_, rfl⟩, .inr ⟨_, hJT⟩⟩
theorem zrw {gf mb : Nat} {lb : Array Value} {ks : List Int} (hgf : ∀ (args : Array Value) (w : World), (callFunc gf args).run Tryz.prog w = .ok (.enter gf args) w) (it : KeysIt gf lb mb ks w) (hmb : mb < w.heap.size) (hl : ks.length ≤ 1000000000) :
  Calls Tryz.prog 237 #[.slice none 0 0, .func (.func gf) #[] lb] w fun r w' => ∃ v xs, r = .returned v ∧ xs.Perm ks ∧ OwnI w' w.heap.size v xs ∧ Kp w w' n_ := by
 refine zaa (args := [.slice none 0 0, .func (.func gf) #[] lb]) Tryz.func237 rfl NL ?_; refine GW ?_
 obtain ⟨a_b3, v_b3, k_w1, z_w1, r_w1⟩ := new5 w 40 ([.slice none 0 0])
 generalize w.alloc (.cells (List.toArray ([.slice none 0 0])) 40) = w1 at *
 generalize hs_b3 : w.heap.size = b3 at *
 refine KGO ?_
 obtain ⟨D, hD⟩ : ∃ D, w1.heap.size = D := ⟨_, rfl⟩
 refine Range.introN (α := Int) (fun x => [.int .i64 x]) (by rfl) hgf rfl rfl (by decide) (fun _ => rfl) (fun b => b = w1.heap.size + 2) (fun b hb => by omega)
  (fun pre W => Kp w1 W (one_ b3) ∧ ∃ vt, VarK W b3 40 [vt] ∧ OwnI W (D + 3) vt pre) (fun _ _ _ => False)
  (fun xs => xs.Perm ks) (fun pre x W => (∃ rest, (pre ++ x :: rest).Perm ks) ∧ D + 3 ≤ W.heap.size) ?_ ?_ ?_ ?_ ?_ ?_ ?_
 ·rintro pre W W' ⟨i1, vt, i2, i3⟩ hsz hk
  refine ⟨i1.trans hk fun q hq e => (by exfalso; rcases e with e | e <;> omega), vt, i2.keep hk (by rintro (e | e) <;> omega), zaj i3 hk fun q hq e => ?_⟩
  obtain ⟨_, _, _, hBq, _⟩ := zar i3 hq
  rcases e with e | e <;> omega
 ·rintro c pre W W' h; exact h.elim
 ·intro W hk hz
  exact ⟨hk.of_none, .slice none 0 0, v_b3.keep0 hk, World.ownsRow_nil _ _ _ _⟩
 ·intro J Jx hJ1 hJk hJxk hY W hkW hWs hJ0
  have hm : ∀ {U : World}, Kp w1 U (one_ b3) → U.heap[mb]? = w1.heap[mb]? := fun k => k.block mb (by omega) (fun e => by have e : mb = b3 := e; omega)
  have h := it (w1.heap.size + 1) J Jx W (k_w1.trans0 hkW) (fun pre W' h => ⟨by have := (hJ1 pre W' h).2; omega, (hm (hJ1 pre W' h).1.1).trans (hm hkW.of_none).symm⟩) (by rw [hWs]; exact hJk) (by
   rw [hWs]
   intro pre x W1 h1 h2
   exact hY pre x W1 h1 ⟨h2.1, by omega⟩) hJ0
  exact h
 ·rintro pre x W ⟨i1, vt, i2, i3⟩ ⟨⟨rest, hrest⟩, hz3⟩ hsz
  obtain ⟨av, cv, rfl⟩ := zab i3
  have a3 := i2.at
  have qW := Kp.refl W n_
  refine GW ?_
  refine KGO ?_
  refine ⟨⟨Rec2.of (Kp.refl W n_) (by omega) id id, fun W3 k3 z3 => ?_⟩⟩
  have i2 := i2.keep k3 (show ¬ b3 = w1.heap.size + 1 by omega)
  have i3 := zaj i3 k3 fun q hq e => by
   obtain ⟨_, _, _, hBq, _⟩ := zar i3 hq
   have e : q = w1.heap.size + 1 := e
   omega
  have hpl : pre.length < ks.length := by
   have h := hrest.length_eq
   rw [List.length_append, List.length_cons] at h; omega
  clear a3
  have a3 := i2.at
  have q3 := Kp.refl W3 n_
  refine GW ?_
  refine KGO ?_
  refine RunV.of (bs1I x _) ?_
  obtain ⟨a_b14, v_b14, k_W4, z_W4, r_W4⟩ := new5 W3 3 (inC x)
  generalize W3.alloc (.cells (List.toArray (inC x)) 3) = W4 at *
  generalize hs_b14 : W3.heap.size = b14 at *
  have i34 := zac i3 k_W4
  have i24 := i2.keep0 k_W4
  refine KGO ?_
  refine tyI.app1 x i34 (by omega) a_b14 (by omega) (by omega) fun v5 W5 o5 k5 => ?_
  have i25 := i24.keep k5 (zaf i34 i24 (by decide))
  obtain ⟨a5, c5, rfl⟩ := zab o5
  refine KGO ?_
  refine Store.cellK (i := 0) i25 (by simp) (by rfl) ⟨rfl, by simp, by simp⟩ fun W6 v6 k6 => ?_
  have o6 := zag (D := [3]) o5 k6 (zak i25 (by decide)) (by decide)
  have hoV : ∀ q, own_ (.slice av pre.length cv) q → D + 3 ≤ q := fun q e => by
   obtain ⟨_, _, _, hBq, _⟩ := zar i34 e; exact hBq
  have k36 : Kp W3 W6 (fun q => D + 3 ≤ q ∨ q = b3) := ((k_W4.of_none).trans' (k5.mono fun q _ e => .inl (hoV q e))).trans' (k6.mono fun q _ e => .inr e)
  refine KGO ?_
  refine ⟨⟨Rec2.of k36 (by omega) (by rintro (e | e) <;> omega) (by rintro (e | e) <;> omega), ⟨?_, _, v6, o6⟩, fun q hq => ?_⟩⟩
  ·exact (i1.trans (c := one_ b3) k3 fun q hq e => (by exfalso; have e : q = w1.heap.size + 1 := e; omega)).trans k36 fun q hq e => by
    rcases e with e | e
    ·exfalso; omega
    ·exact e
  ·exact (k36.block q (by omega) (by rintro (e | e) <;> omega)).trans (k3.block q (by omega) (fun e => by have e : q = w1.heap.size + 1 := e; omega))
 ·rintro xs W hS ⟨i1, vt, i2, i3⟩ hsz hd
  obtain ⟨av, cv, rfl⟩ := zab i3
  have a3 := i2.at
  have qW := Kp.refl W n_
  refine GW ?_
  refine KGO ?_
  have hAll : AllD [w1.heap.size] W := ⟨by simp, fun q hq => by rw [List.mem_singleton.1 hq]; exact hd⟩
  refine ⟨hAll, fun wz kz => ?_⟩
  have hnD : ∀ Ds : List TypeId, ∀ q, q < W.heap.size → q ∈ [w1.heap.size] → notD Ds W q := fun Ds q _ hq cs T z hh => by
   rw [List.mem_singleton.1 hq, hd] at hh; cases hh
  have oz := zag (D := [3]) i3 kz (hnD _) (by decide)
  have Kz : Kp w wz n_ := (zah k_w1 i1 (by omega)).trans kz fun q hq e => by have e := List.mem_singleton.1 e; omega
  refine GW ?_
  refine KGO ?_
  refine GW ?_
  exact ⟨_, xs, rfl, hS, zaz oz (by omega), Kz⟩
 ·rintro c pre W h; exact h.elim
end
section
variable {w : World}
theorem zoh {b mb : Nat} {m : GM Int} (hv : VarK w b 165 [.map (some mb)]) (hm : GMapO (Value.int .i64) w mb m) : KeysIt 204 #[.pointer (some ⟨b, 0, none⟩)] mb (m.map (·.1)) w := by
 intro L J Jx W hkW hJs hJk hY hJ0
 have vW := hv.keep0 hkW
 have mW := hm.keep hkW (fun e => e)
 have aW := vW.at
 have qW := Kp.refl W n_
 show Calls Tryz.prog _ #[.func (.yield L) #[] #[], .pointer (some ⟨b, 0, none⟩)] W _
 refine zaa (args := [.func (.yield L) #[] #[], .pointer (some ⟨b, 0, none⟩)]) Tryz.func204 rfl NL ?_; refine GW ?_
 refine KGO ?_
 refine RunV.rangeG Tryz.underlying165 mW fun w1 hr k1 z1 => ?_
 obtain ⟨rb, hrb⟩ : ∃ rb, W.heap.size = rb := ⟨_, rfl⟩
 rw [hrb] at hr hJk hY hJs ⊢
 refine KGO ?_
 have hmb : mb < rb := by have := mW.g.lt; omega
 have hJ1 : J [] w1 := hJk _ _ _ hJ0 k1.of_none
 refine Loop.intro (ι := List Int × GM Int) (fun _ => [(0, .func (.yield L) #[] #[]), (5, .pointer (some ⟨rb, 0, none⟩))])
  (fun i wr => J i.1 wr ∧ GRange (Value.int .i64) wr mb rb i.2 ∧ (i.1 ++ i.2.map (·.1)).Perm (m.map (·.1))) (fun i => i.2.length) ([], m) ⟨rfl, rfl, trivial⟩
  ⟨hJ1, hr, List.Perm.refl _⟩ ?_
 rintro ⟨pre, left⟩ gg wr ⟨hj, hg, hp⟩
 dsimp only at hj hg hp
 refine GW ?_
 refine KGO ?_
 refine RunV.nextG hg (fun hl w2 k2 z2 => ?_) (fun pa q po w2 hl hr2 k2 z2 hent => ?_)
 ·subst hl
  have hj2 := hJk _ _ _ hj k2.of_none
  refine KGO ?_
  exact ⟨⟨_, rfl⟩, .inl ⟨pre, by simpa using hp, hj2⟩⟩
 ·obtain ⟨q1, q2⟩ := q
  subst hl
  have hj2 := hJk _ _ _ hj k2
  refine KGO ?_
  refine RunV.of hent ?_
  refine KGO ?_
  have hp2 : (pre ++ q1 :: (pa ++ po).map (·.1)).Perm (m.map (·.1)) := by
   refine List.Perm.trans ?_ hp
   rw [List.map_append, List.map_append, List.map_cons]
   exact List.Perm.append_left pre List.perm_middle.symm
  have hsz := hr2.lt
  have hy := hY pre q1 w2 hj2 ⟨⟨_, hp2⟩, by omega⟩
  refine YieldS.of hy ?_
  rintro v wT (⟨rfl, hJT, hsame⟩ | ⟨rfl, hJT⟩)
  ·refine GW ?_
   refine KGO ?_
   exact ⟨(pre ++ [q1], pa ++ po), ⟨rfl, rfl, trivial⟩, ⟨hJT, GRange.same hr2 ((hJs _ _ hJT).2.trans (hJs _ _ hj2).2.symm) (hsame rb rfl), by simpa using hp2⟩, by simp⟩
  ·refine GW ?_
   refine KGO ?_
   exact ⟨⟨_, rfl⟩, .inr ⟨_, hJT⟩⟩
theorem zmB {a b : List Int} (h : a.Perm b) : (a.mergeSort fun x y => decide (x ≤ y)) = b.mergeSort fun x y => decide (x ≤ y) := by
 have tr : ∀ x y z : Int, decide (x ≤ y) = true → decide (y ≤ z) = true → decide (x ≤ z) = true := fun x y z h1 h2 => by
  have := of_decide_eq_true h1; have := of_decide_eq_true h2; exact decide_eq_true (by omega)
 have tt : ∀ x y : Int, (decide (x ≤ y) || decide (y ≤ x)) = true := fun x y => by
  rcases Int.le_total x y with h | h <;> simp [h]
 refine List.Perm.eq_of_pairwise (le := fun x y => decide (x ≤ y) = true) (fun x y _ _ h1 h2 => by have := of_decide_eq_true h1; have := of_decide_eq_true h2; omega) (List.pairwise_mergeSort tr tt a) (List.pairwise_mergeSort tr tt b) (((List.mergeSort_perm _ _).trans h).trans (List.mergeSort_perm _ _).symm)
theorem mk_B {mb : Nat} : Calls Tryz.prog 145 #[.map (some mb)] w fun r w' => ∃ b, r = .returned (.func (.func 211) #[] #[.pointer (some ⟨b, 0, none⟩)]) ∧ VarK w' b 143 [.map (some mb)] ∧ Kp w w' n_ := by
 refine zaa (args := [.map (some mb)]) Tryz.func145 rfl NL ?_; refine GW ?_
 obtain ⟨a_b1, v_b1, k_w1, z_w1, r_w1⟩ := new5 w 143 ([.map (some mb)])
 generalize w.alloc (.cells (List.toArray ([.map (some mb)])) 143) = w1 at *
 generalize hs_b1 : w.heap.size = b1 at *
 refine KGO ?_
 exact ⟨b1, rfl, v_b1, k_w1⟩
theorem mk_L {mb : Nat} : Calls Tryz.prog 141 #[.map (some mb)] w fun r w' => ∃ b, r = .returned (.func (.func 204) #[] #[.pointer (some ⟨b, 0, none⟩)]) ∧ VarK w' b 165 [.map (some mb)] ∧ Kp w w' n_ := by
 refine zaa (args := [.map (some mb)]) Tryz.func141 rfl NL ?_; refine GW ?_
 obtain ⟨a_b1, v_b1, k_w1, z_w1, r_w1⟩ := new5 w 165 ([.map (some mb)])
 generalize w.alloc (.cells (List.toArray ([.map (some mb)])) 165) = w1 at *
 generalize hs_b1 : w.heap.size = b1 at *
 refine KGO ?_
 exact ⟨b1, rfl, v_b1, k_w1⟩
theorem zrA {gf mb : Nat} {lb : Array Value} {ks : List Int} (hgf : ∀ (args : Array Value) (w : World), (callFunc gf args).run Tryz.prog w = .ok (.enter gf args) w) (it : KeysIt gf lb mb ks w) (hmb : mb < w.heap.size) (hl : ks.length ≤ 1000000000) :
  Calls Tryz.prog 203 #[.func (.func gf) #[] lb] w fun r w' => ∃ v xs, r = .returned v ∧ xs.Perm ks ∧ OwnI w' w.heap.size v xs ∧ Kp w w' n_ := by
 refine zaa (args := [.func (.func gf) #[] lb]) Tryz.func203 rfl NL ?_; refine GW ?_
 refine CallS.of (Tryz.call237 _ _) (zrw (w := w) hgf it hmb hl) ?_
 rintro e w1 ⟨v, xs, rfl, hp, ho, k1⟩
 obtain ⟨a, c, rfl⟩ := zab ho
 refine RT ?_
 refine KGO ?_
 exact ⟨_, xs, rfl, hp, ho, k1⟩
theorem zpA {gf mb : Nat} {lb : Array Value} {ks : List Int} (hgf : ∀ (args : Array Value) (w : World), (callFunc gf args).run Tryz.prog w = .ok (.enter gf args) w) (it : KeysIt gf lb mb ks w) (hmb : mb < w.heap.size) (hl : ks.length ≤ 1000000000) :
  Calls Tryz.prog 140 #[.func (.func gf) #[] lb] w fun r w' => ∃ v, r = .returned v ∧ OwnI w' w.heap.size v (ks.mergeSort fun x y => decide (x ≤ y)) ∧ Kp w w' n_ := by
 refine zaa (args := [.func (.func gf) #[] lb]) Tryz.func140 rfl NL ?_; refine GW ?_
 refine CallS.of (Tryz.call203 _ _) (zrA (w := w) hgf it hmb hl) ?_
 rintro e w1 ⟨v, xs, rfl, hp, ho, k1⟩
 have hxl := hp.length_eq
 have hsort : (xs.mergeSort fun x y => decide (x ≤ y)) = ks.mergeSort fun x y => decide (x ≤ y) := zmB hp
 obtain ⟨a, c, rfl⟩ := zab ho
 refine RT ?_
 refine KGO ?_
 refine CallS.of (Tryz.call79 _ _) (srt_I (w := w1) xs ho (by omega)) ?_
 rintro e w2 ⟨rfl, o2, k2⟩
 refine RT ?_
 refine KGO ?_
 rw [hsort] at o2
 exact ⟨_, rfl, o2, k1.trans k2 fun q hq e => (by exfalso; obtain ⟨_, _, _, hB, _⟩ := zar ho e; omega)⟩
end
end Go.Proofs.YtennokckmjcefaaGreatDoor
