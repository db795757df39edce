/- Helper text of this claim: MapK: lemmas and contracts that the proved statement rests on; no conditions of its own. -/
import Derived.Test.YtmipmlcolaaonaaDoorWsK
/-! Maps from strings: a list of pairs. -/
namespace Go.Vc
open Go Go.Pw Go.RowKit
set_option linter.unusedVariables false
theorem ba_beq (a b : ByteArray) : (a == b) = decide (a = b) := by
  obtain ⟨a⟩ := a
  obtain ⟨b⟩ := b
  have e : ((ByteArray.mk a == ByteArray.mk b) : Bool) = (a == b) := rfl
  rw [e]
  by_cases h : a = b <;> simp [h]
abbrev SM := List (ByteArray × Value)
def SM.get : SM → ByteArray → Option Value
  | [], _ => none
  | (s, v) :: r, k => if k = s then some v else SM.get r k
def SM.put : SM → ByteArray → Value → SM
  | [], k, x => [(k, x)]
  | (s, v) :: r, k, x => if k = s then (s, x) :: r else (s, v) :: SM.put r k x
def SM.del : SM → ByteArray → SM
  | [], _ => []
  | (s, v) :: r, k => if k = s then r else (s, v) :: SM.del r k
def entP (e : MapEntry) : Value × Value := (e.key, e.val)
def smP (p : ByteArray × Value) : Value × Value := (.string p.1, p.2)
/-- The block b holds a map with these entries. -/
def SMap (w : World) (b : Nat) (m : SM) : Prop := ∃ es clock, w.heap[b]? = some (.map es clock) ∧ es.toList.map entP = m.map smP
theorem findNow_str (k : ByteArray) : ∀ (es : List MapEntry) (m : SM) (i : Nat), es.map entP = m.map smP →
    (m.get k = none ∧ Instr.findNow .string (.string k) es i = some none ∧ (∀ x, m.put k x = m ++ [(k, x)]) ∧ m.del k = m) ∨
    ∃ v j, m.get k = some v ∧ j < es.length ∧ Instr.findNow .string (.string k) es i = some (some (i + j, v)) ∧ (es[j]?).map (·.key) = some (.string k) ∧ (∀ x, (es.modify j fun e => { e with key := .string k, val := x }).map entP = (m.put k x).map smP) ∧ (es.eraseIdx j).map entP = (m.del k).map smP
  | [], m, i, h => by
    have : m = [] := by cases m with | nil => rfl | cons a r => simp at h
    subst this
    exact .inl ⟨rfl, rfl, fun _ => rfl, rfl⟩
  | e :: es, [], i, h => by simp at h
  | e :: es, (s, v) :: r, i, h => by
    simp only [List.map_cons, List.cons.injEq] at h
    obtain ⟨h1, h2⟩ := h
    simp only [entP, smP, Prod.mk.injEq] at h1
    obtain ⟨h3, h4⟩ := h1
    by_cases hk : k = s
    · right
      subst hk
      refine ⟨v, 0, by simp [SM.get], by simp, ?_, by simp [h3], fun x => ?_, ?_⟩
      · simp [Instr.findNow, h3, Instr.sameNow, h4, ba_beq]
      · simp [SM.put, entP, smP, h2]
      · simp [SM.del, h2]
    · rcases findNow_str k es r (i + 1) h2 with ⟨a1, a2, a3, a4⟩ | ⟨v', j, a1, a2, a3, a4, a5, a6⟩
      · left
        refine ⟨by simp [SM.get, hk, a1], ?_, fun x => by simp [SM.put, hk, a3], by simp [SM.del, hk, a4]⟩
        simp [Instr.findNow, h3, Instr.sameNow, hk, a2, ba_beq]
      · right
        refine ⟨v', j + 1, by simp [SM.get, hk, a1], Nat.succ_lt_succ a2, ?_, by simpa using a4, fun x => ?_, ?_⟩
        · simp [Instr.findNow, h3, Instr.sameNow, hk, a3, ba_beq]; omega
        · simp only [List.modify_succ_cons, List.map_cons, SM.put, if_neg hk, a5 x]
          simp [entP, smP, h3, h4]
        · simp only [List.eraseIdx_cons_succ, List.map_cons, SM.del, if_neg hk, a6]
          simp [entP, smP, h3, h4]
section
variable {P : Program} {w : World} {b : Nat} {m : SM} {t kt et : TypeId} {K : Value → World → Prop}
theorem checkKey_str' (hk : P.underlying kt = some .string) (e : Bool) (s : ByteArray) (n : Nat) : (Instr.checkKey e (n + 1) kt (.string s)).run P w = .ok () w := by
  unfold Instr.checkKey
  simp [und_ok hk]
theorem checkKey_str (hk : P.underlying kt = some .string) (e : Bool) (s : ByteArray) : (Instr.checkKey e 10000 kt (.string s)).run P w = .ok () w := checkKey_str' hk e s 9999
theorem RunV.look (ht : P.underlying t = some (.map kt et)) (hk : P.underlying kt = some .string) {z : Value} (hz : (zeroValue et).run P w = .ok z w) (h : SMap w b m) (s : ByteArray) (k : K ((m.get s).getD z) w) :
    RunV P (Instr.lookup t (.map (some b)) (.string s) false) w K := by
  obtain ⟨es, clock, hb, he⟩ := h
  refine ⟨_, w, ?_, k⟩
  rcases findNow_str s es.toList m 0 he with ⟨a1, a2, _⟩ | ⟨v, j, a1, a2, a3, _⟩
  · simp [Instr.lookup, und_ok ht, getObj, Sem.run, hb, checkKey_str hk, Instr.findKey, und_ok hk, a2, hz, a1]
  · simp [Instr.lookup, und_ok ht, getObj, Sem.run, hb, checkKey_str hk, Instr.findKey, und_ok hk, a3, a1]
theorem RunV.look2 (ht : P.underlying t = some (.map kt et)) (hk : P.underlying kt = some .string) {z : Value} (hz : (zeroValue et).run P w = .ok z w) (h : SMap w b m) (s : ByteArray) (k : K (.tuple #[(m.get s).getD z, .bool (m.get s).isSome]) w) :
    RunV P (Instr.lookup t (.map (some b)) (.string s) true) w K := by
  obtain ⟨es, clock, hb, he⟩ := h
  refine ⟨_, w, ?_, k⟩
  rcases findNow_str s es.toList m 0 he with ⟨a1, a2, _⟩ | ⟨v, j, a1, a2, a3, _⟩
  · simp [Instr.lookup, und_ok ht, getObj, Sem.run, hb, checkKey_str hk, Instr.findKey, und_ok hk, a2, hz, a1]
  · simp [Instr.lookup, und_ok ht, getObj, Sem.run, hb, checkKey_str hk, Instr.findKey, und_ok hk, a3, a1]
/-- The world with another object in the block b. -/
def setO (w : World) (b : Nat) (o : Obj) : World := { w with heap := w.heap.set! b o }
theorem setO_get (o : Obj) (hb : b < w.heap.size) : (setO w b o).heap[b]? = some o := by
  simp [setO, hb]
theorem setO_keeps (o : Obj) : Keeps w (setO w b o) (one_ b) :=
  ⟨rfl, rfl, rfl, by simp [setO], fun k hk hn => by
    have : b ≠ k := fun e => hn e.symm
    simp [setO, this]⟩
theorem RunU.upd {K : World → Prop} (ht : P.underlying t = some (.map kt et)) (hk : P.underlying kt = some .string) (h : SMap w b m) (s : ByteArray) (x : Value) (k : ∀ w', SMap w' b (m.put s x) → Keeps w w' (one_ b) → K w') :
    RunU P (Instr.mapUpdate t (.map (some b)) (.string s) x) w K := by
  obtain ⟨es, clock, hb, he⟩ := h
  have hlt : b < w.heap.size := by
    rcases Nat.lt_or_ge b w.heap.size with h' | h'
    · exact h'
    · rw [Array.getElem?_eq_none h'] at hb; cases hb
  rcases findNow_str s es.toList m 0 he with ⟨a1, a2, a3, _⟩ | ⟨v, j, a1, a2, a3, a4, a5, _⟩
  · refine ⟨setO w b (.map (es.push { key := .string s, val := x, born := clock }) (clock + 1)), ?_, k _ ⟨_, _, setO_get _ hlt, ?_⟩ (setO_keeps _)⟩
    · simp [Instr.mapUpdate, und_ok ht, getObj, setObj, Sem.run, hb, checkKey_str hk, Instr.findKey, und_ok hk, a2, setO]
    · simp [a3, he, entP, smP]
  · have e : (es.toList[j]?).map (·.key) = some (.string s) := a4
    have e2 : ((es[j]?).map (·.key)).getD (.string s) = .string s := by
      rw [← Array.getElem?_toList, e]; rfl
    refine ⟨setO w b (.map (es.modify j fun e => { e with key := .string s, val := x }) clock), ?_, k _ ⟨_, _, setO_get _ hlt, ?_⟩ (setO_keeps _)⟩
    · simp [Instr.mapUpdate, und_ok ht, getObj, setObj, Sem.run, hb, checkKey_str hk, Instr.findKey, und_ok hk, a3, setO, e2, Instr.keyThatStays, Instr.sameBits, ba_beq]
    · rw [Array.toList_modify]; exact a5 x
end
end Go.Vc
namespace Go.Vc
theorem SM.put_new : ∀ (m : SM) (k : ByteArray) (x : Value) (ks : List ByteArray), m.map (·.1) = ks → ¬ k ∈ ks → m.put k x = m ++ [(k, x)]
  | [], k, x, _, _, _ => rfl
  | (s, v) :: r, k, x, _, rfl, hn => by
    simp only [List.map_cons, List.mem_cons, not_or] at hn
    simp only [SM.put, if_neg hn.1, SM.put_new r k x _ rfl hn.2]; rfl
end Go.Vc
namespace Go.Vc
open Go.Cs
theorem SM.put_newL (m : SM) (l : List UInt8) (x : Value) (ks : List (List UInt8)) (h : m.map (·.1) = ks.map str) (hn : ¬ l ∈ ks) : m.put (str l) x = m ++ [(str l, x)] :=
  SM.put_new m _ x _ h fun hm => by
    obtain ⟨y, hy, e⟩ := List.mem_map.1 hm
    exact hn (by rw [← str_inj.1 e]; exact hy)
end Go.Vc
