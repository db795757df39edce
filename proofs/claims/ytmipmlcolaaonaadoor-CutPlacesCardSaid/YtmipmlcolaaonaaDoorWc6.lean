/- Helper text of this claim: Wc6: lemmas and contracts that the proved statement rests on; no conditions of its own. -/
import Derived.Test.YtmipmlcolaaonaaDoorWc5
import Derived.Test.YtmipmlcolaaonaaDoorKit3
namespace Go.Vc
open Go Go.Pw
set_option linter.unusedVariables false
theorem Br.yes {b : Bool} {p q : Prop} (h : b = true) (k : p) : Br b p q := ⟨fun _ => k, fun e => by rw [h] at e; cases e⟩
theorem Br.no {b : Bool} {p q : Prop} (h : b = false) (k : q) : Br b p q := ⟨fun e => (by rw [h] at e; cases e), fun _ => k⟩
theorem Br.dec {c : Prop} [Decidable c] {p q : Prop} (h : c → p) (k : ¬ c → q) : Br (decide c) p q := ⟨fun e => h (of_decide_eq_true e), fun e => k (of_decide_eq_false e)⟩
theorem Br.beq {a b : Int} {p q : Prop} (h : a = b → p) (k : a ≠ b → q) : Br (a == b) p q := ⟨fun e => h (by simpa using e), fun e => k (by simpa using e)⟩
theorem Br.bne {a b : Int} {p q : Prop} (h : a ≠ b → p) (k : a = b → q) : Br (a != b) p q := ⟨fun e => h (by simpa using e), fun e => k (by simpa using e)⟩
theorem Br.dec_yes {c : Prop} [Decidable c] {p q : Prop} (h : c) (k : p) : Br (decide c) p q := Br.yes (decide_eq_true h) k
theorem Br.dec_no {c : Prop} [Decidable c] {p q : Prop} (h : ¬ c) (k : q) : Br (decide c) p q := Br.no (decide_eq_false h) k
theorem Br.beq_yes {a b : Int} {p q : Prop} (h : a = b) (k : p) : Br (a == b) p q := Br.yes (by simpa using h) k
theorem Br.beq_no {a b : Int} {p q : Prop} (h : ¬ a = b) (k : q) : Br (a == b) p q := Br.no (by simpa using h) k
theorem Br.bne_yes {a b : Int} {p q : Prop} (h : ¬ a = b) (k : p) : Br (a != b) p q := Br.yes (by simpa using h) k
theorem Br.bne_no {a b : Int} {p q : Prop} (h : a = b) (k : q) : Br (a != b) p q := Br.no (by simpa using h) k
theorem Br.tt {p q : Prop} (k : p) : Br true p q := Br.yes rfl k
theorem Br.ff {p q : Prop} (k : q) : Br false p q := Br.no rfl k
theorem Br.not_yes {b : Bool} {p q : Prop} (k : Br b q p) : Br (!b) p q := ⟨fun e => k.f (by simpa using e), fun e => k.t (by simpa using e)⟩
theorem Num.i64 {e : Int} {K : Int → Prop} (h : -9223372036854775808 ≤ e) (h' : e ≤ 9223372036854775807) (k : K e) : Num .i64 e K := ⟨by
  have : IntKind.i64.wrap e = e := by unfold IntKind.wrap; simp [IntKind.signed, IntKind.bits]; omega
  rw [this]; exact k⟩
theorem Num.i32 {e : Int} {K : Int → Prop} (h : -2147483648 ≤ e) (h' : e ≤ 2147483647) (k : K e) : Num .i32 e K := ⟨by
  have : IntKind.i32.wrap e = e := by unfold IntKind.wrap; simp [IntKind.signed, IntKind.bits]; omega
  rw [this]; exact k⟩
theorem Num.u8 {e : Int} {K : Int → Prop} (h : 0 ≤ e) (h' : e ≤ 255) (k : K e) : Num .u8 e K := ⟨by
  have : IntKind.u8.wrap e = e := by unfold IntKind.wrap; simp [IntKind.signed, IntKind.bits]; omega
  rw [this]; exact k⟩
theorem Num.any {k : IntKind} {e : Int} {K : Int → Prop} (h : ∀ x, -9223372036854775808 ≤ x → x ≤ 9223372036854775807 → k = .i64 → K x) (hk : k = .i64) : Num k e K := ⟨by
  subst hk
  have : IntKind.i64.wrap e = (e + 2 ^ 63) % 2 ^ 64 - 2 ^ 63 := by unfold IntKind.wrap; simp [IntKind.signed, IntKind.bits]; omega
  exact h _ (by rw [this]; omega) (by rw [this]; omega) rfl⟩
theorem Idx.nat {j n : Nat} {K : Nat → Prop} (h : j < n) (k : K j) : Idx (j : Int) n K := ⟨j, rfl, h, k⟩
theorem Idx.lit {j n : Nat} {i : Int} {K : Nat → Prop} (e : i = j) (h : j < n) (k : K j) : Idx i n K := ⟨j, e, h, k⟩
theorem Idx.int {n : Nat} {i : Int} {K : Nat → Prop} (h0 : 0 ≤ i) (h : i < n) (k : K i.toNat) : Idx i n K := ⟨i.toNat, by omega, by omega, k⟩
def isAggB (P : Program) (t : TypeId) : Bool := match P.underlying t with | some (.struct _) => true | some (.array _ _) => true | some _ => false | none => true
theorem isAgg_no {P : Program} {t : TypeId} (h : isAggB P t = false) (w : World) : (isAgg t).run P w = .ok false w := by
  unfold isAggB at h
  unfold isAgg
  split at h
  · cases h
  · cases h
  · rename_i d h1 h2 hd
    simp only [Sem.run_bind, und_ok hd, Result.andThen_ok]
    rfl
  · cases h
theorem Load.one {P : Program} {t : TypeId} {a : Addr} {w : World} {v : Value} {K : Value → Prop} (ht : isAggB P t = false) (h : w.cell? a = some v) (k : K v) : Load P t a w K :=
  ⟨v, by unfold loadVar; simp [isAgg_no ht, load, Sem.run, h], k⟩
theorem Held.one {P : Program} {S : World → Prop} {t : TypeId} {a : Addr} {v : Value} {K : Value → Prop} (ht : isAggB P t = false) (h : ∀ w, S w → w.cell? a = some v) (k : K v) : Held P S t a K :=
  ⟨v, fun w hw => by unfold loadVar; simp [isAgg_no ht, load, Sem.run, h w hw], k⟩
def sizeOfT (P : Program) (t : TypeId) : Option Nat := match P.info? t with | some i => some i.size | none => none
theorem Store.one {P : Program} {t : TypeId} {a : Addr} {w : World} {u v : Value} {K : World → Prop} (hs : sizeOfT P t = some 1) (hv : v.cells = #[v] ∧ (∀ cs, v ≠ .agg cs) ∧ ∀ cs, v ≠ .tuple cs) (h : w.cell? a = some u) (hf : w.frozen? a = false) (k : K (w.setCell a v)) : Store P t a v w K := by
  refine ⟨_, ?_, k⟩
  unfold sizeOfT at hs
  split at hs
  · rename_i i hi
    have hs := Option.some.inj hs
    have e : a.add 0 = a := by simp [Addr.add]
    obtain ⟨h1, h2, h3⟩ := hv
    unfold storeVar
    have hsz : (sizeOf t).run P w = .ok 1 w := by rw [size_ok hi, hs]
    simp [hsz, h1, storeCells, store, e]
    cases v <;> first | exact (h2 _ rfl).elim | exact (h3 _ rfl).elim | simp [Sem.run, h, hf]
  · cases hs
theorem CallS.of {P : Program} {g : FuncId} {args : List Value} {w : World} {K : Value → World → Prop} {R : Ending → World → Prop}
    (hr : (callFunc g args.toArray).run P w = .ok (.enter g args.toArray) w) (h : Calls P g args.toArray w R) (k : ∀ e w', R e w' → ∃ v, e = .returned v ∧ K v w') : CallS P g args w K := ⟨hr, h.mono k⟩
theorem Cut.to {n len h : Nat} {K : Nat → Nat → Prop} (hh : h ≤ n) (q : K 0 h) : Cut none (some (h : Int)) n len K := ⟨0, h, .inr ⟨rfl, rfl⟩, .inl rfl, by omega, hh, q⟩
theorem Cut.toI {n len : Nat} {h : Int} {K : Nat → Nat → Prop} (h0 : 0 ≤ h) (hh : h ≤ n) (q : K 0 h.toNat) : Cut none (some h) n len K := ⟨0, h.toNat, .inr ⟨rfl, rfl⟩, .inl (by congr 1; omega), by omega, by omega, q⟩
theorem Cut.from {n l len : Nat} {K : Nat → Nat → Prop} (hh : l ≤ len) (hn : len ≤ n) (q : K l len) : Cut (some (l : Int)) none n len K := ⟨l, len, .inl rfl, .inr ⟨rfl, rfl⟩, hh, hn, q⟩
theorem Cut.fromI {n len : Nat} {l : Int} {K : Nat → Nat → Prop} (h0 : 0 ≤ l) (hh : l ≤ len) (hn : len ≤ n) (q : K l.toNat len) : Cut (some l) none n len K := ⟨l.toNat, len, .inl (by congr 1; omega), .inr ⟨rfl, rfl⟩, by omega, hn, q⟩
theorem Cut.both {n l h len : Nat} {K : Nat → Nat → Prop} (hl : l ≤ h) (hh : h ≤ n) (q : K l h) : Cut (some (l : Int)) (some (h : Int)) n len K := ⟨l, h, .inl rfl, .inl rfl, hl, hh, q⟩
theorem Cut.bothI {n len : Nat} {l h : Int} {K : Nat → Nat → Prop} (h0 : 0 ≤ l) (hl : l ≤ h) (hh : h ≤ n) (q : K l.toNat h.toNat) : Cut (some l) (some h) n len K := ⟨l.toNat, h.toNat, .inl (by congr 1; omega), .inl (by congr 1; omega), by omega, by omega, q⟩
theorem RunV.of {P : Program} {s : Sem Value} {w w' : World} {v : Value} {K : Value → World → Prop} (h : s.run P w = .ok v w') (k : K v w') : RunV P s w K := ⟨v, w', h, k⟩
theorem RunV.cat {P : Program} {w : World} {a c : ByteArray} {K : Value → World → Prop} (h : a.size + c.size ≤ 9223372036854775807) (k : K (.string (a ++ c)) w) : RunV P (Op.stringOp .add a c) w K := by
  refine ⟨_, w, ?_, k⟩
  have e : ¬ ((a.size + c.size : Nat) : Int) > IntKind.i64.max := by
    have : IntKind.i64.max = 9223372036854775807 := by decide
    rw [this]; omega
  simp only [Op.stringOp]
  rw [if_neg e]
  rfl
end Go.Vc
namespace Go.Vc
theorem ret_int {k : IntKind} {a b : Int} (h : a = b) : Ending.returned (.int k a) = .returned (.int k b) := by rw [h]
theorem ret_bool {a b : Bool} (h : a = b) : Ending.returned (.bool a) = .returned (.bool b) := by rw [h]
theorem ret_str {a b : ByteArray} (h : a = b) : Ending.returned (.string a) = .returned (.string b) := by rw [h]
theorem v_int {k : IntKind} {a b : Int} (h : a = b) : Value.int k a = .int k b := by rw [h]
theorem v_str {a b : ByteArray} (h : a = b) : Value.string a = .string b := by rw [h]
theorem v_bool {a b : Bool} (h : a = b) : Value.bool a = .bool b := by rw [h]
end Go.Vc
