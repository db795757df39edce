/- Helper lemmas; no conditions of their own. -/
import Derived.Lib.IndexAny
import Derived.Test.YtennokckmjcefaaGreatDoorGCr5
set_option linter.unusedVariables false
set_option maxRecDepth 100000
namespace Go.Vc
open Go Go.Pw Go.RowKit
set_option linter.unusedSectionVars false
theorem zpu (a b : ByteArray) : (a == b) = decide (a = b) := by
 obtain ⟨a⟩ := a
 obtain ⟨b⟩ := b
 have e : ((ByteArray.mk a == ByteArray.mk b) : Bool) = (a == b) := rfl
 rw [e]
 by_cases h : a = b <;> simp [h]
abbrev GM (κ : Type) := List (κ × Value)
section
variable {κ : Type} [DecidableEq κ]
def GM.get : GM κ → κ → Option Value
 | [], _ => none
 | (s, v) :: r, k => if k = s then some v else GM.get r k
def GM.put : GM κ → κ → Value → GM κ
 | [], k, x => [(k, x)]
 | (s, v) :: r, k, x => if k = s then (s, x) :: r else (s, v) :: GM.put r k x
def GM.del : GM κ → κ → GM κ
 | [], _ => []
 | (s, v) :: r, k => if k = s then r else (s, v) :: GM.del r k
def GM.idx : GM κ → κ → Nat → Option (Nat × Value)
 | [], _, _ => none
 | (s, v) :: r, k, i => if k = s then some (i, v) else GM.idx r k (i + 1)
def entG (e : MapEntry) : Value × Value := (e.key, e.val)
def gmP (enc : κ → Value) (p : κ × Value) : Value × Value := (enc p.1, p.2)
structure KeyOk (P : Program) (kt : TypeId) (enc : κ → Value) : Prop where
 check : ∀ e k w, (Instr.checkKey e 10000 kt (enc k)).run P w = .ok () w
 find : ∀ w k (es : List MapEntry) (m : GM κ), es.map entG = m.map (gmP enc) → (Instr.findKey kt (enc k) es).run P w = .ok (m.idx k 0) w
 bits : ∀ k, Instr.sameBits 10000 (enc k) (enc k) = true
def GMap (enc : κ → Value) (w : World) (b : Nat) (m : GM κ) : Prop := ∃ es clock, w.heap[b]? = some (.map es clock) ∧ es.toList.map entG = m.map (gmP enc)
theorem GM.idx_get (k : κ) : ∀ (m : GM κ) (i : Nat), (m.idx k i).map (·.2) = m.get k
 | [], i => rfl
 | (s, v) :: r, i => by
  unfold GM.idx GM.get
  split
  ·rfl
  exact GM.idx_get k r (i + 1)
theorem GM.idx_none (k : κ) : ∀ (m : GM κ) (i : Nat), m.idx k i = none → m.get k = none ∧ (∀ x, m.put k x = m ++ [(k, x)]) ∧ m.del k = m
 | [], i, _ => ⟨rfl, fun _ => rfl, rfl⟩
 | (s, v) :: r, i, h => by
  unfold GM.idx at h
  split at h
  ·cases h
  rename_i hk
  obtain ⟨h1, h2, h3⟩ := GM.idx_none k r (i + 1) h
  exact ⟨by simp [GM.get, hk, h1], fun x => by simp [GM.put, hk, h2], by simp [GM.del, hk, h3]⟩
theorem GM.idx_some {enc : κ → Value} (k : κ) : ∀ (es : List MapEntry) (m : GM κ) (i j : Nat) (v : Value), es.map entG = m.map (gmP enc) → m.idx k i = some (j, v) →
  ∃ d, j = i + d ∧ d < es.length ∧ m.get k = some v ∧ (es[d]?).map (·.key) = some (enc k) ∧ (∀ x, (es.modify d fun e => { e with key := enc k, val := x }).map entG = (m.put k x).map (gmP enc)) ∧ (es.eraseIdx d).map entG = (m.del k).map (gmP enc)
 | [], m, i, j, v, h, hi => by
  have : m = [] := by cases m with | nil => rfl | cons a r => simp at h
  subst this; simp [GM.idx] at hi
 | e :: es, [], i, j, v, h, hi => by simp at h
 | e :: es, (s, x0) :: r, i, j, v, h, hi => by
  simp only [yas, List.cons.injEq] at h
  obtain ⟨h1, h2⟩ := h
  simp only [entG, gmP, Prod.mk.injEq] at h1
  obtain ⟨h3, h4⟩ := h1
  unfold GM.idx at hi
  split at hi
  ·rename_i hk
   subst hk
   simp only [Option.some.injEq, Prod.mk.injEq] at hi
   obtain ⟨rfl, rfl⟩ := hi
   refine ⟨0, by simp, by simp, by simp [GM.get], by simp [h3], fun x => ?_, ?_⟩
   ·simp only [List.modify_zero_cons, yas, GM.put, if_pos, h2]
    simp [entG, gmP]
   simp [GM.del, h2]
  rename_i hk
  obtain ⟨d, q1, q2, q3, q4, q5, q6⟩ := GM.idx_some k es r (i + 1) j v h2 hi
  refine ⟨d + 1, OM, Nat.succ_lt_succ q2, by simp [GM.get, hk, q3], by simpa using q4, fun x => ?_, ?_⟩
  ·simp only [List.modify_succ_cons, yas, GM.put, if_neg hk, q5 x]
   simp [entG, gmP, h3, h4]
  simp only [List.eraseIdx_cons_succ, yas, GM.del, if_neg hk, q6]
  simp [entG, gmP, h3, h4]
theorem GM.get_put (k k' : κ) (x : Value) : ∀ (m : GM κ), (m.put k x).get k' = if k' = k then some x else m.get k'
 | [] => by simp [GM.put, GM.get]
 | (s, v) :: r => by
  unfold GM.put
  by_cases h : k = s
  ·subst h
   rw [if_pos rfl]
   simp only [GM.get]
   split <;> rfl
  rw [if_neg h]
  simp only [GM.get]
  by_cases h2 : k' = s
  ·rw [if_pos h2, if_pos h2, if_neg (fun e => h (by rw [← e, h2]))]
  rw [if_neg h2, if_neg h2, GM.get_put k k' x r]
variable {enc : κ → Value} {P : Program} {w : World} {b : Nat} {m : GM κ} {t kt et : TypeId} {K : Value → World → Prop}
theorem GMap.lt (h : GMap enc w b m) : b < w.heap.size := by
 obtain ⟨es, cl, hb, he⟩ := h
 rcases yby b w.heap.size with h' | h'
 ·exact h'
 rw [Array.getElem?_eq_none h'] at hb; cases hb
theorem GMap.keep {w' : World} {c : Nat → Prop} (h : GMap enc w b m) (k : Kp w w' c) (hc : ¬ c b) : GMap enc w' b m := by
 have hlt := h.lt
 obtain ⟨es, cl, hb, he⟩ := h
 exact ⟨es, cl, (k.block b hlt hc).trans hb, he⟩
theorem GMap.new (w : World) : GMap enc (w.alloc (.map #[] 0)) w.heap.size ([] : GM κ) := ⟨#[], 0, heap_alloc_new w _, rfl⟩
theorem RunV.makeMap {r : Option Value} (hr : r = none) (k : K (.map (some w.heap.size)) (w.alloc (.map #[] 0))) : RunV P (Instr.makeMap t r) w K := by
 subst hr
 exact Ye (by simp [Instr.makeMap]) k
theorem RunV.lookG (ok : KeyOk P kt enc) (ht : P.underlying t = some (.map kt et)) {z : Value} (hz : (zeroValue et).run P w = .ok z w) (h : GMap enc w b m) (s : κ) {e : Value} (he : e = enc s) (k : K ((m.get s).getD z) w) :
  RunV P (Instr.lookup t (.map (some b)) e false) w K := by
 subst he
 obtain ⟨es, clock, hb, he⟩ := h
 refine ⟨_, w, ?_, k⟩
 have h1 := GM.idx_get s m 0
 cases hi : m.idx s 0 with
 | none =>
  rw [hi] at h1
  simp [Instr.lookup, und_ok ht, getObj, Sem.run, hb, ok.check, ok.find w s es.toList m he, hi, hz, ← h1]
 | some jv =>
  obtain ⟨j, v⟩ := jv
  rw [hi] at h1
  simp [Instr.lookup, und_ok ht, getObj, Sem.run, hb, ok.check, ok.find w s es.toList m he, hi, ← h1]
abbrev Yn := @RunV.lookG
def setOG (w : World) (b : Nat) (o : Obj) : World := { w with heap := w.heap.set! b o }
theorem zcG (o : Obj) (hb : b < w.heap.size) : (setOG w b o).heap[b]? = some o := by
 simp [setOG, hb]
theorem zck (o : Obj) : Kp w (setOG w b o) (one_ b) :=
 ⟨rfl, rfl, rfl, by simp [setOG], fun k hk hn => by
  have : b ≠ k := fun e => hn e.symm
  simp [setOG, this]⟩
theorem RunU.updG {K : World → Prop} (ok : KeyOk P kt enc) (ht : P.underlying t = some (.map kt et)) (h : GMap enc w b m) (s : κ) {e : Value} (he : e = enc s) (x : Value) (k : ∀ w', GMap enc w' b (m.put s x) → Kp w w' (one_ b) → K w') :
  RunU P (Instr.mapUpdate t (.map (some b)) e x) w K := by
 subst he
 have hlt := h.lt
 obtain ⟨es, clock, hb, he⟩ := h
 have hf := ok.find w s es.toList m he
 cases hi : m.idx s 0 with
 | none =>
  rw [hi] at hf
  obtain ⟨a1, a2, a3⟩ := GM.idx_none s m 0 hi
  refine ⟨setOG w b (.map (es.push { key := enc s, val := x, born := clock }) (clock + 1)), ?_, k _ ⟨_, _, zcG _ hlt, ?_⟩ (zck _)⟩
  ·simp [Instr.mapUpdate, und_ok ht, getObj, setObj, Sem.run, hb, ok.check, hf, setOG]
  simp [a2, he, entG, gmP]
 | some jv =>
  obtain ⟨j, v⟩ := jv
  rw [hi] at hf
  obtain ⟨d, q1, q2, q3, q4, q5, q6⟩ := GM.idx_some s es.toList m 0 j v he hi
  obtain rfl : j = d := OM
  have e2 : ((es[j]?).map (·.key)).getD (enc s) = enc s := by
   rw [← Array.getElem?_toList, q4]; rfl
  refine ⟨setOG w b (.map (es.modify j fun e => { e with key := enc s, val := x }) clock), ?_, k _ ⟨_, _, zcG _ hlt, ?_⟩ (zck _)⟩
  ·simp [Instr.mapUpdate, und_ok ht, getObj, setObj, Sem.run, hb, ok.check, hf, setOG, e2, Instr.keyThatStays, ok.bits]
  rw [ybS]; exact q5 x
end
section
variable {P : Program} {kt : TypeId}
theorem zri {κ : Type} [DecidableEq κ] {enc : κ → Value} {u : TypeDesc} (hu : P.underlying kt = some u) (hs : ∀ a b, Instr.sameNow u (enc a) (enc b) = some (decide (a = b))) (w : World) (k : κ) (es : List MapEntry) (m : GM κ) (h : es.map entG = m.map (gmP enc)) :
  (Instr.findKey kt (enc k) es).run P w = .ok (m.idx k 0) w := by
 have key : ∀ (es : List MapEntry) (m : GM κ) (i : Nat), es.map entG = m.map (gmP enc) → Instr.findNow u (enc k) es i = some (m.idx k i) := by
  intro es
  induction es with
  | nil =>
   intro m i h
   have : m = [] := by cases m with | nil => rfl | cons a r => simp at h
   subst this; rfl
  | cons e es ih =>
   intro m i h
   cases m with
   | nil => simp at h
   | cons p r =>
    obtain ⟨s, v⟩ := p
    simp only [yas, List.cons.injEq] at h
    obtain ⟨h1, h2⟩ := h
    simp only [entG, gmP, Prod.mk.injEq] at h1
    obtain ⟨h3, h4⟩ := h1
    unfold Instr.findNow GM.idx
    rw [h3, hs]
    by_cases hk : k = s
    ·simp [hk, h4]
    simp [hk, ih r (i + 1) h2]
 unfold Instr.findKey
 simp [und_ok hu, key es m 0 h]
theorem znW (hk : P.underlying kt = some (.int .i64)) : KeyOk P kt (Value.int .i64) where
 check e k w := by
  show (Instr.checkKey e (9999 + 1) kt _).run P w = _
  unfold Instr.checkKey
  simp [und_ok hk]
 find := zri hk fun a b => by by_cases h : a = b <;> simp [Instr.sameNow, h]
 bits k := by simp [Instr.sameBits]
theorem ziq {κ : Type} [DecidableEq κ] {enc : κ → Value} {u : TypeDesc} (hu : P.underlying kt = some u) (hn : ∀ a b, Instr.sameNow u (enc a) (enc b) = none) (heq : ∀ w a b, (Op.equal kt (enc a) (enc b)).run P w = .ok (decide (a = b)) w)
  (hc : ∀ e k w, (Instr.checkKey e 10000 kt (enc k)).run P w = .ok () w) (hb : ∀ k, Instr.sameBits 10000 (enc k) (enc k) = true) : KeyOk P kt enc where
 check := hc
 bits := hb
 find w k es m h := by
  have ask : ∀ (es : List MapEntry) (m : GM κ) (i : Nat), es.map entG = m.map (gmP enc) → (Instr.findAsking kt (enc k) es i).run P w = .ok (m.idx k i) w := by
   intro es
   induction es with
   | nil =>
    intro m i h
    have : m = [] := by cases m with | nil => rfl | cons a r => simp at h
    subst this; rfl
   | cons e es ih =>
    intro m i h
    cases m with
    | nil => simp at h
    | cons p r =>
     obtain ⟨s, v⟩ := p
     simp only [yas, List.cons.injEq] at h
     obtain ⟨h1, h2⟩ := h
     simp only [entG, gmP, Prod.mk.injEq] at h1
     obtain ⟨h3, h4⟩ := h1
     unfold Instr.findAsking GM.idx
     rw [h3]
     by_cases hk : k = s
     ·simp [heq, hk, h4]
     simp [heq, hk, ih r (i + 1) h2]
  unfold Instr.findKey
  cases es with
  | nil =>
   have : m = [] := by cases m with | nil => rfl | cons a r => simp at h
   subst this
   simp [und_ok hu, Instr.findNow, GM.idx]
  | cons e es =>
   cases m with
   | nil => simp at h
   | cons p r =>
    have h1 := h
    simp only [yas, List.cons.injEq] at h1
    have h3 : e.key = enc p.1 := by have := h1.1; simp only [entG, gmP, Prod.mk.injEq] at this; exact this.1
    have : Instr.findNow u (enc k) (e :: es) 0 = none := by unfold Instr.findNow; rw [h3, hn]
    simp [und_ok hu, this, ask (e :: es) (p :: r) 0 h]
end
end Go.Vc
namespace Go.Proofs.YtennokckmjcefaaGreatDoor
open Go.RowKit Go.Pw Go.Vc Go.Cs Go.Lib
theorem zsg (x y : List UInt8) : ((str x).toList == (str y).toList) = decide (x = y) := by
 rw [zeH]
 by_cases h : x = y
 ·simp [h]
 have : str x ≠ str y := fun e => h (by have := congrArg L e; rwa [L_str, L_str] at this)
 simp [h, this]
theorem zaI {w w' : World} {b o : Nat} {vs : List Value} {c : Nat → Prop} (h : At w b o vs) (k : Kp w w' c) (hc : ¬ c b) : At w' b o vs := fun i v hi => by
 have := h i v hi
 rw [k.cell (zeN this) hc]; exact this
end Go.Proofs.YtennokckmjcefaaGreatDoor
namespace Go.Vc
open Go Go.Pw
theorem ziB {α : Type} (f : α → List Value) (n : Nat) (hf : ∀ x, (f x).length = n) {j : Nat} (hj : j < n) (v : Value) (x : α) : ∀ (l : List α) (k : Nat) (hk : k < l.length), f x = (f l[k]).set j v → (l.flatMap f).set (k * n + j) v = (l.set k x).flatMap f
 | [], k, hk, _ => by simp at hk
 | y :: r, 0, _, h => by
  rw [List.set_cons_zero, yao, yao, yaO, yaU, List.set_append_left _ _ (by rw [hf]; exact hj)]
  have h : f x = (f y).set j v := h
  rw [h]
 | y :: r, k + 1, hk, h => by
  rw [List.set_cons_succ, yao, yao, List.set_append_right _ _ (by rw [hf, ybp]; omega), hf, show (k + 1) * n + j - n = k * n + j by rw [ybp]; omega]
  rw [ziB f n hf hj v x r k (by simpa using hk) h]
theorem Store.atK {P : Program} {t T : TypeId} {w : World} {b i : Nat} {cs : List Value} {v : Value} {K : World → Prop} (h : VarK w b T cs) (hi : i < cs.length) (hs : zba P t = some 1) (hv : v.cells = #[v] ∧ (∀ cs, v ≠ .agg cs) ∧ ∀ cs, v ≠ .tuple cs)
  (k : ∀ w', VarK w' b T (cs.set i v) → Kp w w' (one_ b) → K w') : Store P t ⟨b, i, none⟩ v w K := by
 have hc : w.cell? ⟨b, i, none⟩ = some cs[i] := by
  have := h.at i _ (List.getElem?_eq_getElem hi)
  rwa [yaU] at this
 exact Store.one hs hv hc (h.frozen _) (k _ (h.set i v) ((Yb w (one_ b)).setCell (p := ⟨b, i, none⟩) (.inl rfl) v))
theorem zpG {α : Type} {w w' : World} {B e s g cap : Nat} {cells : List Value} {f : α → List Value} {l : List α} (hf : ∀ x, (f x).length = s) {k j : Nat} (hk : k < l.length) (hj : j < s) {v : Value} {x : α} (hx : f x = (f l[k]).set j v)
  (hB : B ≤ g) (hn : l.length ≤ cap) (hc : cap ≤ maxLen) (hl : cells.length = cap * s) (ht : cells.take (l.length * s) = l.flatMap f) (h : VarK w' g e (cells.set (k * s + j) v)) : w'.ownsRow B e s (.slice (some ⟨g, 0, none⟩) l.length cap) l.length ((l.set k x).flatMap f) := by
 refine zbY hB h hn hc (by rw [ybm, hl]) ?_ (by rw [flatK_len f s hf, ybm])
 rw [List.take_set, ht]
 exact ziB f s hf hj v x l k hk hx
end Go.Vc
namespace Go.Cs

end Go.Cs
namespace Go.Proofs.YtennokckmjcefaaGreatDoor
open Go.Shelf Go.RowKit Go.Pw Go.Vc Go.Cs Go.Lib
def Apart (v u : Value) : Prop := ∀ k, v.ownBlock = some k → u.ownBlock ≠ some k
theorem zal {w w' : World} {B s n b : Nat} {e : TypeId} {v : Value} {xs : List Value} (h : w.ownsRow B e s v n xs) (k : Kp w w' (one_ b)) (hb : b < B) : w'.ownsRow B e s v n xs :=
 own_keep h k fun g hg e => by have e : g = b := e; have := (h.lt g hg).1; omega
theorem keeps_new {a w w' : World} {b : Nat} (h : Kp a w n_) (k : Kp w w' (one_ b)) (hb : a.heap.size ≤ b) : Kp a w' n_ := h.trans k fun q hq e => by have e : q = b := e; omega
theorem zlU {α β : Type} (f : α → β) (p : β → Bool) (l : List α) : idxP (fun x => p (f x)) l = idxP p (l.map f) := by
 unfold idxP
 rw [List.findIdx?_map]
 rfl
theorem zpp {w w' : World} {B s n : Nat} {e : TypeId} {v u : Value} {xs : List Value} (h : w.ownsRow B e s v n xs) (k : Kp w w' (own_ u)) (ap : Apart v u) : w'.ownsRow B e s v n xs :=
 own_keep h k fun g hg e => ap g hg e
end Go.Proofs.YtennokckmjcefaaGreatDoor
namespace Go.Proofs.YtennokckmjcefaaGreatDoor
open Go.RowKit Go.Pw Go.Vc Go.Cs Go.Lib
theorem zcK {α : Type} {p : α → Bool} {l : List α} {j : Nat} (h : j < l.length) : (l.take (j + 1)).filter p = (l.take j).filter p ++ (if p l[j] = true then [l[j]] else []) := by
 rw [yad h, ybf]
 congr 1
 by_cases hp : p l[j] = true
 ·rw [if_pos hp, ybM hp]; rfl
 rw [if_neg hp, ybx hp]; rfl
end Go.Proofs.YtennokckmjcefaaGreatDoor
namespace Go.Vc
open Go Go.Pw Go.RowKit
theorem RunN.appNone {P : Program} {w : World} {K : Value → World → Prop} {t ty e : TypeId} {cs : Array Bool} {B s n c bytes : Nat} {z v : Value} {xs : List Value} (ht : P.underlying t = some (.slice e)) (hb : (P.info? e).map (fun i => (i.zero, i.size, i.bytes)) = some (some z, s, bytes))
  (hown : w.ownsRow B e s v n xs) (k : K v w) : RunN P (builtin .append #[t, t] ty cs [v, .slice none 0 c].toArray) w K := by
 obtain ⟨i, hi, _, _, _⟩ := zcc hb
 refine ⟨v, w, ?_, k⟩
 show (do pure (Next.value (← Builtin.append_ #[t, t] ty #[v, .slice none 0 c])) : Sem Next).run P w = _
 rcases hown.2 with ⟨rfl, rfl⟩ | ⟨g, cap, cur, rfl, _, _, hnc, _⟩
 ·simp [Builtin.append_, run_underlying ht, sizeOf, typeInfo, hi, Builtin.lenOf, Builtin.firstCells]
 simp [Builtin.append_, run_underlying ht, sizeOf, typeInfo, hi, Builtin.lenOf, Builtin.firstCells, hnc, storeCells]
theorem RunN.zeros0 {P : Program} {w : World} {K : Value → World → Prop} {t tn ty e : TypeId} {cs : Array Bool} {s bytes : Nat} {z : Value} {kq kn : IntKind} (ht : P.underlying t = some (.slice e)) (htn : P.underlying tn = some (.int kn)) (hb : (P.info? e).map (fun i => (i.zero, i.size, i.bytes)) = some (some z, s, bytes)) (hz : z.cells.size = s) (hs : 0 < s) {m : Nat} (h0 : 0 < m)
  (h63 : m ≤ 9223372036854775807) (hbytes : m * bytes ≤ 140737488355328)
  (k : ∀ w' cells c', VarK w' w.heap.size e cells → cells.length = c' * s → m ≤ c' → c' ≤ maxLen → Kp w w' n_ → K (.slice (some ⟨w.heap.size, 0, none⟩) m c') w') :
  RunN P (builtin .append #[t, tn] ty cs [.slice none 0 0, .int kq (m : Nat)].toArray) w K := by
 obtain ⟨i, hi, z1, rfl, rfl⟩ := zcc hb
 have hr := Lib.run_append_grow_zeros (P := P) w t tn ty e i z kq kn ht htn hi z1 none 0 0 [] (by simp [Builtin.firstCells]) m h0 hs OM OM OM (zrT OM (by simpa using hbytes))
 have hge := grownCap_ge w (0 + m) 0 e
 rw [yaU] at hr hge
 refine ⟨_, w.drew.alloc (.cells ([].toArray ++ Builtin.zeroCells z.cells m ++ Builtin.zeroCells z.cells (grownCap w m 0 e - m)) e), ?_, k _ (Builtin.zeroCells z.cells m ++ Builtin.zeroCells z.cells (grownCap w m 0 e - m)).toList _ ?_ ?_ hge (grownCap_le_maxLen w m 0 e (by rw [show maxLen = 9223372036854775807 from rfl]; exact h63)) ?_⟩
 ·show (do pure (Next.value (← Builtin.append_ #[t, tn] ty #[.slice none 0 0, .int kq (m : Nat)])) : Sem Next).run P w = _
  simp only [Sem.run_bind, hr, Result.andThen_ok]
  rfl
 ·have := heap_alloc_new w.drew (.cells ([].toArray ++ Builtin.zeroCells z.cells m ++ Builtin.zeroCells z.cells (grownCap w m 0 e - m)) e)
  unfold VarK
  rw [show ((Builtin.zeroCells z.cells m ++ Builtin.zeroCells z.cells (grownCap w m 0 e - m)).toList).toArray = [].toArray ++ Builtin.zeroCells z.cells m ++ Builtin.zeroCells z.cells (grownCap w m 0 e - m) by apply Array.ext'; simp]
  exact this
 ·rw [ybK, Array.size_append, size_zeroCells, size_zeroCells, hz, ← ybB]
  congr 1
  omega
 exact (Yb w n_).drew.alloc _
end Go.Vc
namespace Go.Proofs.YtennokckmjcefaaGreatDoor
open Go.Shelf Go.RowKit Go.Pw Go.Vc Go.Cs Go.Lib
structure RowTy {α : Type} (T E : TypeId) (c : α → List Value) (s bytes : Nat) : Prop where
 ht : Tryz.prog.underlying T = some (.slice E)
 hb : ∃ z, (Tryz.prog.info? E).map (fun i => (i.zero, i.size, i.bytes)) = some (some z, s, bytes) ∧ z.cells.size = s
 hs : 0 < s
 len : ∀ x, (c x).length = s
 one : ∀ x, ∀ u ∈ c x, u.oneCell' = true
abbrev OwnR {α : Type} (E : TypeId) (c : α → List Value) (s : Nat) (w : World) (B : Nat) (v : Value) (l : List α) : Prop := w.ownsRow B E s v l.length (l.flatMap c)
section
variable {α : Type} {T E : TypeId} {c : α → List Value} {s bytes : Nat} {w : World} {K : Value → World → Prop} {B : Nat} {v : Value} {l : List α} {cs : Array Bool}
theorem RowTy.app (ty : RowTy T E c s bytes) {a : Option Addr} {m cap : Nat} (r : List α) (h : OwnR E c s w B v l) (hB : B ≤ w.heap.size) (hm : m = r.length) (hr : 0 < m → ∃ g o, a = some ⟨g, o, none⟩ ∧ At w g o (r.flatMap c))
  (h63 : l.length + r.length ≤ 9223372036854775807) (hbytes : (l.length + r.length) * bytes ≤ 140737488355328) (k : ∀ v' w', OwnR E c s w' B v' (l ++ r) → Kp w w' (own_ v) → K v' w') :
  RunN Tryz.prog (builtin .append #[T, T] T cs [v, .slice a m cap].toArray) w K := by
 subst hm
 obtain ⟨z, hb, hz⟩ := ty.hb
 cases a with
 | none =>
  have h0 : r.length = 0 := by
   rcases ybj r.length with h0 | h0
   ·exact h0
   obtain ⟨g, o, e, _⟩ := hr h0; cases e
  have hn := yan h0
  subst hn
  refine RunN.appNone ty.ht hb h (k _ _ ?_ (Yb _ _))
  rw [yaA]; exact h
 | some a =>
  refine RunN.app ty.ht hb hz ty.hs h hB a r.length cap (r.flatMap c) (flatK_len c s ty.len r) (fun j u hj => ?_) (fun u hu => ?_) h63 hbytes fun v' w' h2 h3 => k v' w' ?_ ?_
  ·rcases ybj r.length with h0 | h0
   ·rw [yan h0] at hj; simp at hj
   obtain ⟨g, o, e, hat⟩ := hr h0
   injection e with e
   subst e
   rw [add_none]
   exact hat j u hj
  ·obtain ⟨x, _, hx⟩ := ybl.1 hu
   exact ty.one x u hx
  ·unfold OwnR
   rw [yaa, yaC]
   exact h2
  exact ⟨h3.os, h3.tape, h3.output, h3.size, fun i hi hn => h3.block i hi fun e => hn e.symm⟩
theorem RowTy.app1 (ty : RowTy T E c s bytes) {b cap : Nat} (x : α) (h : OwnR E c s w B v l) (hB : B ≤ w.heap.size) (hx : At w b 0 (c x)) (h63 : l.length + 1 ≤ 9223372036854775807) (hbytes : (l.length + 1) * bytes ≤ 140737488355328)
  (k : ∀ v' w', OwnR E c s w' B v' (l ++ [x]) → Kp w w' (own_ v) → K v' w') : RunN Tryz.prog (builtin .append #[T, T] T cs [v, .slice (some ⟨b, 0, none⟩) 1 cap].toArray) w K :=
 ty.app [x] h hB rfl (fun _ => ⟨b, 0, rfl, by rw [ybN]; exact hx⟩) h63 hbytes k
theorem zhr {g o : Nat} (hl : ∀ x, (c x).length = s) (h : At w g o (l.flatMap c)) (i : Nat) : At w g (o + i * s) ((l.drop i).flatMap c) := fun j u hj => by
 rw [← flatK_drop c s hl, List.getElem?_drop] at hj
 rw [ybT]
 exact h _ u hj
end
theorem tyI : RowTy 40 3 inC 1 8 := ⟨Tryz.underlying40, ⟨_, infoI, rfl⟩, by decide, lenI, fun x u hu => by rw [yac.1 hu]; rfl⟩
end Go.Proofs.YtennokckmjcefaaGreatDoor
namespace Go.Cd
def b8 (n : Nat) : UInt8 := UInt8.ofNat n
theorem zfl {n : Nat} (h : n < 256) : (b8 n).toNat = n := by simp [b8]; omega
def numF : Nat → Nat → List UInt8
 | 0, n => [b8 n]
 | k + 1, n => if n < 128 then [b8 n] else b8 (n % 128 + 128) :: numF k (n / 128)
def numE (n : Nat) : List UInt8 := numF 64 n
theorem ziH : ∀ (j k n : Nat), n < 128 ^ (j + 1) → (numF k n).length ≤ j + 1
 | _, 0, n, _ => by simp [numF]
 | 0, k + 1, n, h => by unfold numF; rw [if_pos (by simpa using h)]; simp
 | j + 1, k + 1, n, h => by
  unfold numF
  split
  ·simp
  have := ziH j k (n / 128) (by rw [Nat.pow_succ] at h; omega)
  simp; omega
theorem zfn : ∀ (k j n : Nat), n < 128 ^ (k + 1) → numF (k + j) n = numF k n
 | 0, j, n, h => by
  cases j with
  | zero => rfl
  | succ j => rw [Nat.zero_add]; unfold numF; rw [if_pos (by simpa using h)]
 | k + 1, j, n, h => by
  rw [show k + 1 + j = (k + j) + 1 by omega]
  unfold numF
  split
  ·rfl
  rw [zfn k j (n / 128) (by rw [Nat.pow_succ] at h; omega)]
theorem zhc {n : Nat} (h : n < 128) : numE n = [b8 n] := by unfold numE numF; rw [if_pos h]
theorem zkX {n : Nat} (h : 128 ≤ n) (h2 : n < 2 ^ 63) : numE n = b8 (n % 128 + 128) :: numE (n / 128) := by
 unfold numE
 conv => lhs; unfold numF
 rw [if_neg OM]
 have e1 := zfn 62 1 (n / 128) OM
 have e2 := zfn 62 2 (n / 128) OM
 rw [e1, e2]
theorem zap {n : Nat} (h : n < 2 ^ 63) : (numE n).length ≤ 9 := ziH 8 64 n OM
theorem zca (n : Nat) : 0 < (numE n).length := by unfold numE numF; split <;> simp
def numD : Nat → Bool → List UInt8 → Option (Nat × List UInt8)
 | 0, _, _ => none
 | _ + 1, _, [] => none
 | k + 1, z, b :: r => if 128 ≤ b.toNat then (numD k true r).map fun p => (b.toNat - 128 + 128 * p.1, p.2) else if z = true ∧ b.toNat = 0 then none else some (b.toNat, r)
theorem zeA : ∀ (k : Nat) (z : Bool) (u : List UInt8) (n : Nat) (r : List UInt8), numD k z u = some (n, r) → n < 128 ^ k ∧ r.length < u.length
 | 0, _, _, _, _, h => by cases h
 | _ + 1, _, [], _, _, h => by cases h
 | k + 1, z, b :: r, n, r', h => by
  unfold numD at h
  split at h
  ·cases hd : numD k true r with
   | none => rw [hd] at h; cases h
   | some p =>
    obtain ⟨m, q⟩ := p
    rw [hd] at h
    simp only [ybn, Option.some.injEq, Prod.mk.injEq] at h
    obtain ⟨rfl, rfl⟩ := h
    obtain ⟨h1, h2⟩ := zeA k true r m q hd
    have := b.toNat_lt
    constructor
    ·rw [Nat.pow_succ]; omega
    simp; omega
  split at h
  ·cases h
  simp only [Option.some.injEq, Prod.mk.injEq] at h
  obtain ⟨rfl, rfl⟩ := h
  refine ⟨?_, by simp⟩
  rw [Nat.pow_succ]
  have := Nat.pos_of_ne_zero (show 128 ^ k ≠ 0 from Nat.ne_of_gt (Nat.pow_pos (by decide)))
  omega
theorem zlg : ∀ (k j n : Nat) (z : Bool) (r : List UInt8), n < 128 ^ k → k ≤ j + 1 → 0 < k → (z = true → 0 < n) → numD k z (numF j n ++ r) = some (n, r)
 | 0, _, n, _, _, h, _, h0, _ => OM
 | k + 1, 0, n, z, r, h, hj, h0, hz => by
  obtain rfl : k = 0 := OM
  have h : n < 128 := by simpa using h
  simp only [numF, yaW, yaT, numD]
  rw [zfl OM, if_neg OM, if_neg (by rintro ⟨h1, h2⟩; have := hz h1; omega)]
 | k + 1, j + 1, n, z, r, h, hj, h0, hz => by
  unfold numF
  split
  ·rename_i hn
   simp only [yaW, yaT, numD]
   rw [zfl OM, if_neg OM, if_neg (by rintro ⟨h1, h2⟩; have := hz h1; omega)]
  simp only [yaW, numD]
  rw [zfl OM, if_pos OM, zlg k j (n / 128) true r (by rw [Nat.pow_succ] at h; omega) OM (by cases k with | zero => simp at h; omega | succ k => omega) (fun _ => OM)]
  simp only [ybn]
  congr 2; omega
theorem zfN {n : Nat} (h : n < 2 ^ 63) (r : List UInt8) : numD 9 false (numE n ++ r) = some (n, r) := zlg 9 64 n false r OM OM OM (fun h => by cases h)
abbrev St := Option (List UInt8)
def numR : St → Nat × St
 | none => (0, none)
 | some u => (match numD 9 false u with | none => (0, none) | some (n, r) => (n, some r))
def numsG : Nat → St → List Nat × St
 | 0, s => ([], s)
 | k + 1, s => (match numR s with
  | (_, none) => ([], none)
  | (n, some r) => (match numsG k (some r) with | (l, s) => (n :: l, s)))
def numsR (s : St) : List Nat × St :=
 match numR s with
 | (_, none) => ([], none)
 | (n, some r) => if r.length < n then ([], none) else (match numsG n (some r) with | (_, none) => ([], none) | p => p)
def numsE (l : List Nat) : List UInt8 := numE l.length ++ l.flatMap numE
end Go.Cd
