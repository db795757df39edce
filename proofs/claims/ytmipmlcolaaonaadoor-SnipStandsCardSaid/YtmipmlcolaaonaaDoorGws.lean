/- Helper text of this claim: WsK, WsB, MapK, IterK: lemmas and contracts that the proved statement rests on; no conditions of its own. -/
import Derived.Test.YtmipmlcolaaonaaDoorGwc
import Derived.Test.YtmipmlcolaaonaaDoorGcs
import Derived.Lib.ConvBytes
import Derived.Laws.IdiomStrings
import Derived.Laws.BytesArg
import Derived.Lib.UnsafeStr
import Derived.Laws.RangeString
/-! Rows of the call's own beside the engine: kept, read, turned to text. -/
namespace Go.Vc
open Go Go.Pw Go.RowKit
set_option linter.unusedVariables false
section
variable {w w' : World} {B s n : Nat} {e : TypeId} {v : Value} {xs : List Value} {c : Nat → Prop}
theorem own_keep (h : w.ownsRow B e s v n xs) (k : Keeps w w' c) (hc : ∀ b, v.ownBlock = some b → ¬ c b) : w'.ownsRow B e s v n xs := by
  refine ⟨h.1, ?_⟩
  rcases h.2 with hn | ⟨g, cap, cur, rfl, hb, hgg, rest⟩
  · exact .inl hn
  · have hlt : g < w.heap.size := by
      rcases Nat.lt_or_ge g w.heap.size with h' | h'
      · exact h'
      · rw [Array.getElem?_eq_none h'] at hgg; cases hgg
    exact .inr ⟨g, cap, cur, rfl, hb, (k.block g hlt (hc g rfl)).trans hgg, rest⟩
theorem own_keep0 (h : w.ownsRow B e s v n xs) (k : Keeps w w' none_) : w'.ownsRow B e s v n xs := own_keep h k fun _ _ => id
theorem own_drew (h : w.ownsRow B e s v n xs) : w.drew.ownsRow B e s v n xs := h
theorem own_base {B' : Nat} (h : w.ownsRow B e s v n xs) (hB : B' ≤ B) : w.ownsRow B' e s v n xs := by
  refine ⟨h.1, ?_⟩
  rcases h.2 with hn | ⟨g, cap, cur, rfl, hb, rest⟩
  · exact .inl hn
  · exact .inr ⟨g, cap, cur, rfl, Nat.le_trans hB hb, rest⟩
theorem own_shape (h : w.ownsRow B e s v n xs) : ∃ a cap, v = .slice a n cap := by
  rcases h.2 with ⟨rfl, rfl⟩ | ⟨g, cap, cur, rfl, _⟩
  · exact ⟨_, _, rfl⟩
  · exact ⟨_, _, rfl⟩
theorem own_len (h : w.ownsRow B e s v n xs) : xs.length = n * s := h.1
theorem own_len1 (h : w.ownsRow B e 1 v n xs) : xs.length = n := by have := h.1; omega
theorem own_max (h : w.ownsRow B e s v n xs) : n ≤ 9223372036854775807 := by
  rcases h.2 with ⟨rfl, rfl⟩ | ⟨g, cap, cur, rfl, _, _, h1, h2, _⟩
  · omega
  · have : maxLen = 9223372036854775807 := by rfl
    omega
theorem own_at {a : Option Addr} {cap : Nat} (h : w.ownsRow B e s (.slice a n cap) n xs) (h0 : 0 < n) : ∃ g, a = some ⟨g, 0, none⟩ ∧ B ≤ g ∧ g < w.heap.size ∧ At w g 0 xs := by
  rcases h.2 with ⟨h1, h2⟩ | ⟨g, cap', cur, h1, hb, hgg, _⟩
  · omega
  · injection h1 with h1 _ h3
    subst h1
    subst h3
    refine ⟨g, rfl, hb, (h.lt g rfl).2, fun i u hi => ?_⟩
    have := h.cells (g := g) rfl i u hi
    rw [add_none] at this; exact this
theorem _root_.Go.Pw.Keeps.grown {a : World} {row : Option Nat} (h : Keeps a w c) (hg : w.grownBy w' row) (hr : ∀ k, row = some k → a.heap.size ≤ k) : Keeps a w' c :=
  ⟨hg.os.trans h.os, hg.tape.trans h.tape, hg.output.trans h.output, Nat.le_trans h.size hg.size, fun i hi hn =>
    (hg.block i (Nat.lt_of_lt_of_le hi h.size) (fun e => by have := hr i e.symm; omega)).trans (h.block i hi hn)⟩
theorem _root_.Go.Pw.Keeps.own {a : World} (h : Keeps a w c) (ho : w.ownsRow B e s v n xs) (hB : a.heap.size ≤ B) (hg : w.grownBy w' v.ownBlock) : Keeps a w' c :=
  h.grown hg fun k hk => Nat.le_trans hB (ho.lt k hk).1
theorem _root_.Go.Pw.Keeps.below' {a : World} (h : Keeps a w c) (hb : Below B w w') (hB : a.heap.size ≤ B) : Keeps a w' c :=
  ⟨hb.os.trans h.os, hb.tape.trans h.tape, hb.output.trans h.output, Nat.le_trans h.size hb.size, fun i hi hn => (hb.block i (by omega)).trans (h.block i hi hn)⟩
end
section
variable {P : Program} {w : World}
/-- 'string(b)' of a row of the call's own. -/
theorem RunV.str {src dst e T : TypeId} {B n cap : Nat} {a : Option Addr} {l : List UInt8} {K : Value → World → Prop} (hs : P.underlying src = some (.slice e)) (he : P.underlying e = some (.int .u8)) (hd : P.underlying dst = some .string)
    (h : w.ownsRow B T 1 (.slice a n cap) n (Lib.byteCells l)) (k : K (.string ⟨l.toArray⟩) w) : RunV P (convert src dst (.slice a n cap)) w K := by
  have hn := own_len1 h
  rw [Lib.byteCells_length] at hn
  subst hn
  by_cases h0 : 0 < l.length
  · obtain ⟨g, rfl, _, _, hat⟩ := own_at h h0
    refine ⟨_, _, run_convert_bytes_back w src dst e ⟨g, 0, none⟩ cap l hs he hd (fun j hj => ?_), k⟩
    have := hat j (.int .u8 l[j].toNat) (by simp [Lib.byteCells, hj])
    rw [add_none]; exact this
  · have hl : l = [] := List.eq_nil_of_length_eq_zero (by omega)
    subst hl
    rcases h.2 with ⟨h1, _⟩ | ⟨g, cap', cur, h1, _⟩
    · injection h1 with h1 _ _
      subst h1
      exact ⟨_, _, run_convert_bytes_nil w src e hs he _ _ dst hd, k⟩
    · injection h1 with h1 _ _
      subst h1
      exact ⟨_, _, run_convert_bytes_back w src dst e ⟨g, 0, none⟩ cap [] hs he hd (fun j hj => by simp at hj), k⟩
theorem wrap_u8 (n : Int) (h : 0 ≤ n ∧ n < 256) : IntKind.u8.wrap n = n := by
  unfold IntKind.wrap; simp [IntKind.signed, IntKind.bits]; omega
theorem wrap_i32 (n : Int) (h : -2147483648 ≤ n ∧ n ≤ 2147483647) : IntKind.i32.wrap n = n := by
  unfold IntKind.wrap; simp [IntKind.signed, IntKind.bits]; omega
theorem wrap_i64 (n : Int) (h : -9223372036854775808 ≤ n ∧ n ≤ 9223372036854775807) : IntKind.i64.wrap n = n := by
  unfold IntKind.wrap; simp [IntKind.signed, IntKind.bits]; omega
end
end Go.Vc
namespace Go.Vc
open Go
theorem wrap_byte (b : UInt8) : IntKind.i64.wrap ((b.toNat : Nat) : Int) = b.toNat := wrap_i64 _ (by have := UInt8.toNat_lt b; omega)
end Go.Vc
namespace Go.Vc
open Go Go.Pw Go.RowKit
theorem RunN.app {P : Program} {w : World} {K : Value → World → Prop} {t ty e : TypeId} {cs : Array Bool} {B s n bytes : Nat} {z v : Value} {xs : List Value} (ht : P.underlying t = some (.slice e)) (hb : (P.info? e).map (fun i => (i.zero, i.size, i.bytes)) = some (some z, s, bytes)) (hz : z.cells.size = s) (hs : 0 < s)
    (hown : w.ownsRow B e s v n xs) (hB : B ≤ w.heap.size) (a : Addr) (m c : Nat) (news : List Value) (hl : news.length = m * s) (hnews : ∀ j u, news[j]? = some u → w.cell? (a.add j) = some u) (h1 : ∀ u ∈ news, u.oneCell' = true)
    (h63 : n + m ≤ 9223372036854775807) (hbytes : (n + m) * bytes ≤ 140737488355328)
    (k : ∀ v' w', w'.ownsRow B e s v' (n + m) (xs ++ news) → w.grownBy w' v.ownBlock → K v' w') : RunN P (builtin .append #[t, t] ty cs [v, .slice (some a) m c].toArray) w K := by
  obtain ⟨i, hi, hi2⟩ := Option.map_eq_some_iff.1 hb
  simp only [Prod.mk.injEq] at hi2
  obtain ⟨z1, z2, z3⟩ := hi2
  refine RunN.append B e i z s bytes ht hi z1 z2 z3 hz hs v n xs hown a m c news hl hnews h1 (by rw [show maxLen = 9223372036854775807 from rfl]; omega) hbytes hB fun v' w' h2 h3 _ => k v' w' h2 h3
theorem new_cells (w : World) (cs : Array Value) (e : TypeId) : ∀ j u, cs.toList[j]? = some u → (w.alloc (.cells cs e)).cell? ((⟨w.heap.size, 0, none⟩ : Addr).add j) = some u := by
  intro j u h
  rw [add_none, Nat.zero_add, World.cell?_alloc_new]
  simpa using h
end Go.Vc
namespace Go.Vc
open Go
theorem v_sl {a : Option Addr} {l l' c : Nat} (h : l = l') : Value.slice a l c = .slice a l' c := by rw [h]
end Go.Vc

set_option linter.unusedVariables false
namespace Go.Vc
open Go Go.Pw Go.RowKit
/-- Bytes in cells from the block's head on, not frozen. -/
def Bs (w : World) (b : Nat) (l : List UInt8) : Prop := At w b 0 (Lib.byteCells l) ∧ ∀ j, j < l.length → w.frozen? ⟨b, 0 + j, none⟩ = false
theorem Bs.store {w : World} {b i : Nat} {l : List UInt8} (h : Bs w b l) (hi : i < l.length) (x : UInt8) : (∃ u, w.cell? ⟨b, 0 + i, none⟩ = some u) ∧ w.frozen? ⟨b, 0 + i, none⟩ = false ∧ Bs (w.setCell ⟨b, 0 + i, none⟩ (.int .u8 (x.toNat : Int))) b (l.set i x) := by
  have hc : w.cell? ⟨b, 0 + i, none⟩ = some (.int .u8 (l[i].toNat : Int)) := h.1 i _ (by simp [Lib.byteCells, hi])
  refine ⟨⟨_, hc⟩, h.2 i hi, fun j v hj => ?_, fun j hj => ?_⟩
  · by_cases e : i = j
    · subst e
      simp [Lib.byteCells, hi] at hj
      rw [cell_set_eq hc, hj]
    · have : (⟨b, 0 + i, none⟩ : Addr) ≠ ⟨b, 0 + j, none⟩ := fun e' => by injection e'; omega
      rw [World.cell?_setCell_other (h := this)]
      refine h.1 j v ?_
      simpa [Lib.byteCells, List.getElem?_set_ne e] using hj
  · rw [World.frozen?_setCell]
    rw [List.length_set] at hj
    exact h.2 j hj
theorem Bs.cell {w : World} {b i : Nat} {l : List UInt8} (h : Bs w b l) (hi : i < l.length) : w.cell? ⟨b, 0 + i, none⟩ = some (.int .u8 (((l.getD i 0).toNat : Nat) : Int)) := h.1 i _ (by simp [Lib.byteCells, hi, List.getD])
theorem Bs.keep {w w' : World} {b : Nat} {l : List UInt8} {c : Nat → Prop} (h : Bs w b l) (k : Keeps w w' c) (hb : b < w.heap.size) (hc : ¬ c b) : Bs w' b l :=
  ⟨fun i v hi => by rw [k.cell (p := ⟨b, 0 + i, none⟩) hb hc]; exact h.1 i v hi, fun j hj => by rw [k.frozen (p := ⟨b, 0 + j, none⟩) hb hc]; exact h.2 j hj⟩
theorem bytes_made (w : World) (e : TypeId) (s : ByteArray) : Bs (Lib.bytesWorld w e s) w.heap.size (s.data.toList) ∧ Keeps w (Lib.bytesWorld w e s) none_ := by
  have hl : s.data.toList.length = s.size := rfl
  refine ⟨⟨fun i v hi => ?_, fun j hj => ?_⟩, ⟨rfl, rfl, rfl, by rw [Lib.bytesWorld_size]; omega, fun k hk _ => Lib.bytesWorld_at_old w e s k hk⟩⟩
  · have hlt : i < s.size := by
      have := (List.getElem?_eq_some_iff.1 hi).1
      rw [Lib.byteCells_length] at this; exact this
    rw [Nat.zero_add, Lib.bytesWorld_cell w e s i hlt, ← hi]
    simp [Lib.byteCells, List.getD, List.getElem?_eq_getElem (by omega : i < s.data.toList.length)]
  · rw [hl] at hj
    unfold World.frozen?
    dsimp only
    rw [Lib.bytesWorld_at_new]
    have : s.size ≤ (Lib.bytesCells w e s).size := by
      unfold Lib.bytesCells
      rw [Array.size_append, Array.size_map]
      exact Nat.le_add_right _ _
    simp only [Bool.and_eq_false_iff, decide_eq_false_iff_not]
    omega
theorem RunV.back {P : Program} {w : World} {src dst e : TypeId} {b cap : Nat} {l : List UInt8} {K : Value → World → Prop} (hs : P.underlying src = some (.slice e)) (he : P.underlying e = some (.int .u8)) (hd : P.underlying dst = some .string)
    (h : Bs w b l) (k : K (.string ⟨l.toArray⟩) w) : RunV P (convert src dst (.slice (some ⟨b, 0, none⟩) l.length cap)) w K :=
  ⟨_, _, run_convert_bytes_back w src dst e ⟨b, 0, none⟩ cap l hs he hd (fun j hj => by rw [add_none]; exact h.1 j _ (by simp [Lib.byteCells, hj])), k⟩
end Go.Vc
namespace Go.Vc
open Go
theorem half_eq (i j : Nat) (h : i + j ≤ 1000000000000) : IntKind.i64.wrap ((IntKind.u64.wrap ((i : Int) + (j : Int))).fdiv (2 ^ min (Int.toNat 1) IntKind.u64.bits)) = (((i + j) / 2 : Nat) : Int) := by
  have h1 : IntKind.u64.wrap ((i : Int) + (j : Int)) = ((i + j : Nat) : Int) := by
    unfold IntKind.wrap; simp [IntKind.signed, IntKind.bits]; omega
  have h2 : (2 : Int) ^ min (Int.toNat 1) IntKind.u64.bits = 2 := by decide
  rw [h1, h2, Int.fdiv_eq_ediv_of_nonneg _ (by omega)]
  rw [wrap_i64 _ (by omega)]
  omega
end Go.Vc

/-! Maps from strings: a list of pairs. -/
namespace Go.Vc
open Go Go.Pw Go.RowKit
set_option linter.unusedVariables false
theorem ba_beq (a b : ByteArray) : (a == b) = decide (a = b) := by
  obtain ⟨a⟩ := a
  obtain ⟨b⟩ := b
  have e : ((ByteArray.mk a == ByteArray.mk b) : Bool) = (a == b) := rfl
  rw [e]
  by_cases h : a = b <;> simp [h]
abbrev SM := List (ByteArray × Value)
def SM.get : SM → ByteArray → Option Value
  | [], _ => none
  | (s, v) :: r, k => if k = s then some v else SM.get r k
def SM.put : SM → ByteArray → Value → SM
  | [], k, x => [(k, x)]
  | (s, v) :: r, k, x => if k = s then (s, x) :: r else (s, v) :: SM.put r k x
def SM.del : SM → ByteArray → SM
  | [], _ => []
  | (s, v) :: r, k => if k = s then r else (s, v) :: SM.del r k
def entP (e : MapEntry) : Value × Value := (e.key, e.val)
def smP (p : ByteArray × Value) : Value × Value := (.string p.1, p.2)
/-- The block b holds a map with these entries. -/
def SMap (w : World) (b : Nat) (m : SM) : Prop := ∃ es clock, w.heap[b]? = some (.map es clock) ∧ es.toList.map entP = m.map smP
theorem findNow_str (k : ByteArray) : ∀ (es : List MapEntry) (m : SM) (i : Nat), es.map entP = m.map smP →
    (m.get k = none ∧ Instr.findNow .string (.string k) es i = some none ∧ (∀ x, m.put k x = m ++ [(k, x)]) ∧ m.del k = m) ∨
    ∃ v j, m.get k = some v ∧ j < es.length ∧ Instr.findNow .string (.string k) es i = some (some (i + j, v)) ∧ (es[j]?).map (·.key) = some (.string k) ∧ (∀ x, (es.modify j fun e => { e with key := .string k, val := x }).map entP = (m.put k x).map smP) ∧ (es.eraseIdx j).map entP = (m.del k).map smP
  | [], m, i, h => by
    have : m = [] := by cases m with | nil => rfl | cons a r => simp at h
    subst this
    exact .inl ⟨rfl, rfl, fun _ => rfl, rfl⟩
  | e :: es, [], i, h => by simp at h
  | e :: es, (s, v) :: r, i, h => by
    simp only [List.map_cons, List.cons.injEq] at h
    obtain ⟨h1, h2⟩ := h
    simp only [entP, smP, Prod.mk.injEq] at h1
    obtain ⟨h3, h4⟩ := h1
    by_cases hk : k = s
    · right
      subst hk
      refine ⟨v, 0, by simp [SM.get], by simp, ?_, by simp [h3], fun x => ?_, ?_⟩
      · simp [Instr.findNow, h3, Instr.sameNow, h4, ba_beq]
      · simp [SM.put, entP, smP, h2]
      · simp [SM.del, h2]
    · rcases findNow_str k es r (i + 1) h2 with ⟨a1, a2, a3, a4⟩ | ⟨v', j, a1, a2, a3, a4, a5, a6⟩
      · left
        refine ⟨by simp [SM.get, hk, a1], ?_, fun x => by simp [SM.put, hk, a3], by simp [SM.del, hk, a4]⟩
        simp [Instr.findNow, h3, Instr.sameNow, hk, a2, ba_beq]
      · right
        refine ⟨v', j + 1, by simp [SM.get, hk, a1], Nat.succ_lt_succ a2, ?_, by simpa using a4, fun x => ?_, ?_⟩
        · simp [Instr.findNow, h3, Instr.sameNow, hk, a3, ba_beq]; omega
        · simp only [List.modify_succ_cons, List.map_cons, SM.put, if_neg hk, a5 x]
          simp [entP, smP, h3, h4]
        · simp only [List.eraseIdx_cons_succ, List.map_cons, SM.del, if_neg hk, a6]
          simp [entP, smP, h3, h4]
section
variable {P : Program} {w : World} {b : Nat} {m : SM} {t kt et : TypeId} {K : Value → World → Prop}
theorem checkKey_str' (hk : P.underlying kt = some .string) (e : Bool) (s : ByteArray) (n : Nat) : (Instr.checkKey e (n + 1) kt (.string s)).run P w = .ok () w := by
  unfold Instr.checkKey
  simp [und_ok hk]
theorem checkKey_str (hk : P.underlying kt = some .string) (e : Bool) (s : ByteArray) : (Instr.checkKey e 10000 kt (.string s)).run P w = .ok () w := checkKey_str' hk e s 9999
theorem RunV.look (ht : P.underlying t = some (.map kt et)) (hk : P.underlying kt = some .string) {z : Value} (hz : (zeroValue et).run P w = .ok z w) (h : SMap w b m) (s : ByteArray) (k : K ((m.get s).getD z) w) :
    RunV P (Instr.lookup t (.map (some b)) (.string s) false) w K := by
  obtain ⟨es, clock, hb, he⟩ := h
  refine ⟨_, w, ?_, k⟩
  rcases findNow_str s es.toList m 0 he with ⟨a1, a2, _⟩ | ⟨v, j, a1, a2, a3, _⟩
  · simp [Instr.lookup, und_ok ht, getObj, Sem.run, hb, checkKey_str hk, Instr.findKey, und_ok hk, a2, hz, a1]
  · simp [Instr.lookup, und_ok ht, getObj, Sem.run, hb, checkKey_str hk, Instr.findKey, und_ok hk, a3, a1]
theorem RunV.look2 (ht : P.underlying t = some (.map kt et)) (hk : P.underlying kt = some .string) {z : Value} (hz : (zeroValue et).run P w = .ok z w) (h : SMap w b m) (s : ByteArray) (k : K (.tuple #[(m.get s).getD z, .bool (m.get s).isSome]) w) :
    RunV P (Instr.lookup t (.map (some b)) (.string s) true) w K := by
  obtain ⟨es, clock, hb, he⟩ := h
  refine ⟨_, w, ?_, k⟩
  rcases findNow_str s es.toList m 0 he with ⟨a1, a2, _⟩ | ⟨v, j, a1, a2, a3, _⟩
  · simp [Instr.lookup, und_ok ht, getObj, Sem.run, hb, checkKey_str hk, Instr.findKey, und_ok hk, a2, hz, a1]
  · simp [Instr.lookup, und_ok ht, getObj, Sem.run, hb, checkKey_str hk, Instr.findKey, und_ok hk, a3, a1]
/-- The world with another object in the block b. -/
def setO (w : World) (b : Nat) (o : Obj) : World := { w with heap := w.heap.set! b o }
theorem setO_get (o : Obj) (hb : b < w.heap.size) : (setO w b o).heap[b]? = some o := by
  simp [setO, hb]
theorem setO_keeps (o : Obj) : Keeps w (setO w b o) (one_ b) :=
  ⟨rfl, rfl, rfl, by simp [setO], fun k hk hn => by
    have : b ≠ k := fun e => hn e.symm
    simp [setO, this]⟩
theorem RunU.upd {K : World → Prop} (ht : P.underlying t = some (.map kt et)) (hk : P.underlying kt = some .string) (h : SMap w b m) (s : ByteArray) (x : Value) (k : ∀ w', SMap w' b (m.put s x) → Keeps w w' (one_ b) → K w') :
    RunU P (Instr.mapUpdate t (.map (some b)) (.string s) x) w K := by
  obtain ⟨es, clock, hb, he⟩ := h
  have hlt : b < w.heap.size := by
    rcases Nat.lt_or_ge b w.heap.size with h' | h'
    · exact h'
    · rw [Array.getElem?_eq_none h'] at hb; cases hb
  rcases findNow_str s es.toList m 0 he with ⟨a1, a2, a3, _⟩ | ⟨v, j, a1, a2, a3, a4, a5, _⟩
  · refine ⟨setO w b (.map (es.push { key := .string s, val := x, born := clock }) (clock + 1)), ?_, k _ ⟨_, _, setO_get _ hlt, ?_⟩ (setO_keeps _)⟩
    · simp [Instr.mapUpdate, und_ok ht, getObj, setObj, Sem.run, hb, checkKey_str hk, Instr.findKey, und_ok hk, a2, setO]
    · simp [a3, he, entP, smP]
  · have e : (es.toList[j]?).map (·.key) = some (.string s) := a4
    have e2 : ((es[j]?).map (·.key)).getD (.string s) = .string s := by
      rw [← Array.getElem?_toList, e]; rfl
    refine ⟨setO w b (.map (es.modify j fun e => { e with key := .string s, val := x }) clock), ?_, k _ ⟨_, _, setO_get _ hlt, ?_⟩ (setO_keeps _)⟩
    · simp [Instr.mapUpdate, und_ok ht, getObj, setObj, Sem.run, hb, checkKey_str hk, Instr.findKey, und_ok hk, a3, setO, e2, Instr.keyThatStays, Instr.sameBits, ba_beq]
    · rw [Array.toList_modify]; exact a5 x
end
end Go.Vc
namespace Go.Vc
theorem SM.put_new : ∀ (m : SM) (k : ByteArray) (x : Value) (ks : List ByteArray), m.map (·.1) = ks → ¬ k ∈ ks → m.put k x = m ++ [(k, x)]
  | [], k, x, _, _, _ => rfl
  | (s, v) :: r, k, x, _, rfl, hn => by
    simp only [List.map_cons, List.mem_cons, not_or] at hn
    simp only [SM.put, if_neg hn.1, SM.put_new r k x _ rfl hn.2]; rfl
end Go.Vc
namespace Go.Vc
open Go.Cs
theorem SM.put_newL (m : SM) (l : List UInt8) (x : Value) (ks : List (List UInt8)) (h : m.map (·.1) = ks.map str) (hn : ¬ l ∈ ks) : m.put (str l) x = m ++ [(str l, x)] :=
  SM.put_new m _ x _ h fun hm => by
    obtain ⟨y, hy, e⟩ := List.mem_map.1 hm
    exact hn (by rw [← str_inj.1 e]; exact hy)
end Go.Vc

namespace Go.Vc
open Go Go.Pw Go.RowKit Go.Cs Go.Lib
set_option linter.unusedVariables false
section
variable {P : Program} {w : World} {K : Value → World → Prop}
theorem RunV.rangeS {t : TypeId} {s : ByteArray} (h : P.underlying t = some .string) (k : K (.pointer (some ⟨w.heap.size, 0, none⟩)) (w.alloc (.stringIter s 0))) : RunV P (Instr.range t (.string s)) w K :=
  ⟨_, _, run_range_string w t s h, k⟩
theorem RunV.nextS {b pos : Nat} {s : ByteArray} {ty : TypeId} (h : w.heap[b]? = some (.stringIter s pos)) (hp : pos < s.size)
    (k : K (.tuple #[.bool true, .int .i64 (pos : Nat), .int .i32 ((decodeL ((L s).drop pos)).1 : Nat)]) (setO w b (.stringIter s (pos + (decodeL ((L s).drop pos)).2)))) :
    RunV P (Instr.next (.pointer (some ⟨b, 0, none⟩)) true ty) w K := by
  refine ⟨_, _, ?_, k⟩
  have e : Utf8.decode s pos = decodeL ((L s).drop pos) := (Lib.decodeL_drop s pos).symm
  simp only [Instr.next, getObj, setObj, Sem.run_bind, Sem.run, h, Result.andThen, hp, if_true, e]
  simp [goInt, setO]
theorem RunV.nextE {b pos : Nat} {s : ByteArray} {ty : TypeId} (h : w.heap[b]? = some (.stringIter s pos)) (hp : ¬ pos < s.size) (k : K (.tuple #[.bool false]) w) : RunV P (Instr.next (.pointer (some ⟨b, 0, none⟩)) true ty) w K := by
  refine ⟨_, _, ?_, k⟩
  simp [Instr.next, getObj, Sem.run, h, hp]
theorem lt_of_obj {b : Nat} {o : Obj} (h : w.heap[b]? = some o) : b < w.heap.size := by
  rcases Nat.lt_or_ge b w.heap.size with h' | h'
  · exact h'
  · rw [Array.getElem?_eq_none h'] at h; cases h
end
end Go.Vc
