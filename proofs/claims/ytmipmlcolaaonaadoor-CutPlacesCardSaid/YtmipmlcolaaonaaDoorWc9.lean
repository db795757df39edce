/- Helper text of this claim: Wc9: lemmas and contracts that the proved statement rests on; no conditions of its own. -/
import Derived.Test.YtmipmlcolaaonaaDoorWc8
import Derived.Laws.OwnMore
namespace Go.Vc
open Go Go.Pw
set_option linter.unusedVariables false
def setCells (b : Nat) : List Value → Nat → World → World
  | [], _, w => w
  | v :: r, i, w => setCells b r (i + 1) (w.setCell ⟨b, i, none⟩ v)
theorem store_cells {P : Program} {b o : Nat} : ∀ (vs : List Value) (i : Nat) (w : World), (∀ v ∈ vs, Flat v) → (∀ j, j < vs.length → ∃ u, w.cell? ⟨b, o + i + j, none⟩ = some u) → (∀ j, w.frozen? ⟨b, j, none⟩ = false) →
    (storeCells ⟨b, o, none⟩ vs i).run P w = .ok () (setCells b vs (o + i) w)
  | [], i, w, _, _, _ => by simp [storeCells, setCells]
  | v :: r, i, w, hf, hc, hz => by
    obtain ⟨u, hu⟩ := hc 0 (by simp)
    have hv : Flat v := hf v (by simp)
    have hu : w.cell? ⟨b, o + i, none⟩ = some u := hu
    have e := store_cells (P := P) (o := o) r (i + 1) (w.setCell ⟨b, o + i, none⟩ v) (fun x hx => hf x (by simp [hx])) (fun j hj => by
      obtain ⟨u', hu'⟩ := hc (j + 1) (by simp; omega)
      have : (⟨b, o + i, none⟩ : Addr) ≠ ⟨b, o + (i + 1) + j, none⟩ := fun e => by injection e; omega
      exact ⟨u', by rw [World.cell?_setCell_other (h := this), show o + (i + 1) + j = o + i + (j + 1) by omega]; exact hu'⟩) (fun j => by rw [World.frozen?_setCell]; exact hz j)
    show (storeCells ⟨b, o, none⟩ (v :: r) i).run P w = .ok () (setCells b r (o + i + 1) (w.setCell ⟨b, o + i, none⟩ v))
    rw [show o + i + 1 = o + (i + 1) by omega, ← e]
    simp only [storeCells, add_none, Sem.run_bind, store]
    cases v <;> first | exact hv.elim | simp [Sem.run, hu, hz]
/-- A struct stored over cells that are there. -/
theorem Store.agg {P : Program} {t : TypeId} {w : World} {b o : Nat} (vs : List Value) {K : World → Prop} (hs : sizeOfT P t = some vs.length) (hf : ∀ v ∈ vs, Flat v) (hc : ∀ j, j < vs.length → ∃ u, w.cell? ⟨b, o + j, none⟩ = some u) (hz : ∀ j, w.frozen? ⟨b, j, none⟩ = false)
    (k : K (setCells b vs o w)) : Store P t ⟨b, o, none⟩ (.agg vs.toArray) w K := by
  refine ⟨_, ?_, k⟩
  unfold sizeOfT at hs
  split at hs
  · rename_i i hi
    have hs := Option.some.inj hs
    have e := store_cells (P := P) (b := b) (o := o) vs 0 w hf (by simpa using hc) hz
    unfold storeVar
    simp [size_ok hi, hs, Value.cells, e]
  · cases hs
/-- append, to a row of the call's own. -/
theorem RunN.append {P : Program} {w : World} {K : Value → World → Prop} {t ty : TypeId} {cs : Array Bool} (base e : Nat) (i : TypeInfo) (z : Value) (size bytes : Nat) (ht : P.underlying t = some (.slice e)) (hi : P.info? e = some i) (hz : i.zero = some z)
    (hsize : i.size = size) (hby : i.bytes = bytes) (hzs : z.cells.size = size) (hsz : 0 < size) (v : Value) (n : Nat) (xs : List Value) (hown : w.ownsRow base e size v n xs)
    (a : Addr) (m c : Nat) (news : List Value) (hl : news.length = m * size) (hnews : ∀ j u, news[j]? = some u → w.cell? (a.add j) = some u) (h1 : ∀ u ∈ news, u.oneCell' = true)
    (h63 : n + m ≤ maxLen) (hbytes : (n + m) * bytes ≤ 140737488355328) (hbase : base ≤ w.heap.size)
    (k : ∀ v' w', w'.ownsRow base e size v' (n + m) (xs ++ news) → w.grownBy w' v.ownBlock → (v' = .slice none 0 0 ↔ v = .slice none 0 0 ∧ m = 0) → K v' w') : RunN P (builtin .append #[t, t] ty cs [v, .slice (some a) m c].toArray) w K := by
  obtain ⟨v', w', h1', h2, h3, h4⟩ := run_append_own (P := P) w base t ty e i z size bytes ht hi hz hsize hby hzs hsz v n xs hown a m c news hl hnews h1 h63 hbytes hbase
  refine ⟨v', w', ?_, k v' w' h2 h3 h4⟩
  show (do pure (Next.value (← Builtin.append_ #[t, t] ty #[v, .slice (some a) m c])) : Sem Next).run P w = _
  simp [h1']
theorem RunN.append_none {P : Program} {w : World} {K : Value → World → Prop} {t ty : TypeId} {cs : Array Bool} (base e : Nat) (i : TypeInfo) (size : Nat) (ht : P.underlying t = some (.slice e)) (hi : P.info? e = some i)
    (v : Value) (n : Nat) (xs : List Value) (hown : w.ownsRow base e size v n xs) (k : K v w) : RunN P (builtin .append #[t, t] ty cs [v, .slice none 0 0].toArray) w K := by
  have h := run_append_owned_none (P := P) w base t ty e i size ht hi v n xs hown
  refine ⟨v, w, ?_, k⟩
  show (do pure (Next.value (← Builtin.append_ #[t, t] ty #[v, .slice none 0 0])) : Sem Next).run P w = _
  simp [h]
end Go.Vc
