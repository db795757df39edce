/- Helper text of this claim: BctL: lemmas and contracts that the proved statement rests on; no conditions of its own. -/
import Derived.Test.YtcnkbpghafhceaaC11
import Derived.Test.YtcnkbpghafhceaaV8
/-! Lists of operations: what they read xs, what they do. -/
namespace Go.Pw.Dk
structure ActD where
  Do : Int
  F : Int
  G : Int
  N : Int
  S : ByteArray
  kv : Value
  kl : List Int
instance : Inhabited ActD := ⟨⟨0, 0, 0, 0, ByteArray.empty, .slice none 0 0, []⟩⟩
def pickI (n : Int) : Int := n % 11
def doA (D : St) (x : ActD) : (ByteArray × Int) × St :=
  if pickI x.Do = 0 ∨ pickI x.Do = 1 then ((ByteArray.empty, (app D x.F x.S).1), (app D x.F x.S).2)
  else if pickI x.Do = 2 then ((ByteArray.empty, (flush D x.F).1), (flush D x.F).2)
  else if pickI x.Do = 3 then ((ByteArray.empty, (cut D x.F x.N).1), (cut D x.F x.N).2)
  else if pickI x.Do = 4 then ((ByteArray.empty, (turn D x.F x.G).1), (turn D x.F x.G).2)
  else if pickI x.Do = 5 then ((ByteArray.empty, 0), crash D x.kl)
  else if pickI x.Do = 6 then ((ByteArray.empty, 0), lose D x.N)
  else if pickI x.Do = 7 then ((ByteArray.empty, 0), start0 D)
  else if pickI x.Do = 8 then (Dk.read D x.F, D)
  else if pickI x.Do = 10 then ((ByteArray.empty, 0), arm D x.N x.kl)
  else ((ByteArray.empty, 0), D)
def cellsA (x : ActD) : List Value := [.int .i64 x.Do, .int .i64 x.F, .int .i64 x.G, .int .i64 x.N, .string x.S, x.kv]
def big : Nat := 140737488351232
structure OkA (W : World) (x : ActD) : Prop where
  Do : -9223372036854775808 ≤ x.Do ∧ x.Do ≤ 9223372036854775807
  F : -9223372036854775808 ≤ x.F ∧ x.F ≤ 9223372036854775807
  G : -9223372036854775808 ≤ x.G ∧ x.G ≤ 9223372036854775807
  N : -9223372036854775808 ≤ x.N ∧ x.N ≤ 9223372036854775807
  S : x.S.size ≤ big
  kn : x.kl.length ≤ big
  k : Go.Proofs.Ytcnkbpghafhceaa.IntsNe W.heap.size W x.kv x.kl
/-- The argument l. -/
structure Acts (W : World) (a : Option Addr) (len : Nat) (xs : List ActD) : Prop where
  hlen : len = xs.length
  hmax : len ≤ big
  ok : ∀ i, i < xs.length → OkA W (xs.getD i default)
  at_ : ∀ i, i < len → ∃ lb lo, a = some ⟨lb, lo, none⟩ ∧ lb < W.heap.size ∧ Go.Vc.At W lb (lo + i * 6) (cellsA (xs.getD i default))
def few (xs : List ActD) : Prop := xs.length ≤ 200 ∧ ∀ i, i < xs.length → (xs.getD i default).S.size ≤ 100000 ∧ (xs.getD i default).kl.length ≤ 100000
def fewN (xs : List ActD) (k : Nat) : Nat := ((xs.take k).map fun x => x.S.size + x.kl.length).sum
theorem fewN_succ (xs : List ActD) (k : Nat) (h : k < xs.length) : fewN xs (k + 1) = fewN xs k + ((xs.getD k default).S.size + (xs.getD k default).kl.length) := by
  unfold fewN
  rw [List.take_succ_eq_append_getElem h, List.map_append, List.sum_append, List.getD_eq_getElem?_getD, List.getElem?_eq_getElem h]
  simp
theorem fewN_mono (xs : List ActD) {k j : Nat} (h : k ≤ j) (hj : j ≤ xs.length) : fewN xs k ≤ fewN xs j := by
  induction j with
  | zero => have : k = 0 := by omega
            subst this; exact Nat.le_refl _
  | succ j ih =>
    by_cases e : k = j + 1
    · subst e; exact Nat.le_refl _
    · have := ih (by omega) (by omega)
      rw [fewN_succ xs j (by omega)]; omega
theorem few_of {xs : List ActD} (h1 : xs.length ≤ 200) (h2 : fewN xs xs.length ≤ 100000) : few xs := by
  refine ⟨h1, fun i hi => ?_⟩
  have e1 := fewN_succ xs i hi
  have e2 := fewN_mono xs (k := i + 1) (j := xs.length) (by omega) (Nat.le_refl _)
  omega
theorem fewN_bound {W : World} {a : Option Addr} {len : Nat} {xs : List ActD} (h : Acts W a len xs) (k : Nat) (hk : k ≤ xs.length) : fewN xs k ≤ k * (2 * big) := by
  induction k with
  | zero => simp [fewN]
  | succ k ih =>
    have := ih (by omega)
    have hx := h.ok k (by omega)
    have h1 := hx.S; have h2 := hx.kn
    rw [fewN_succ xs k (by omega), Nat.succ_mul]; omega
end Go.Pw.Dk
