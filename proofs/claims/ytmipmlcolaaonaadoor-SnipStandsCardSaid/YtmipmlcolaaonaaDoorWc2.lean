/- Helper text of this claim: Wc2: lemmas and contracts that the proved statement rests on; no conditions of its own. -/
import Derived.Test.YtmipmlcolaaonaaDoorWc
namespace Go.Vc
open Go Go.Pw
set_option linter.unusedVariables false
set_option linter.unusedSimpArgs false
variable {P : Program} {f : Fr} {w : World} {K : Value → World → Prop}

theorem size_ok {P : Program} {e : TypeId} {i : TypeInfo} (h : P.info? e = some i) (w : World) : (sizeOf e).run P w = .ok i.size w := by
  simp [sizeOf, typeInfo, h]
theorem und_ok {P : Program} {t : TypeId} {d : TypeDesc} (h : P.underlying t = some d) (w : World) : (underlying t).run P w = .ok d w := by
  simp [underlying, h]
theorem elem_slice {t : TypeId} {sz : Nat} (h1 : isSlice P t = true) (h2 : elemSize P t = some sz) : ∃ e i, P.underlying t = some (.slice e) ∧ P.info? e = some i ∧ i.size = sz := by
  unfold isSlice at h1; unfold elemSize at h2
  split at h1
  · rename_i e he
    rw [he] at h2; dsimp only at h2
    split at h2
    · rename_i i hi; cases h2; exact ⟨e, i, he, hi, rfl⟩
    · cases h2
  · cases h1
theorem elem_arr {t : TypeId} {sz n : Nat} (h1 : arrLen P t = some n) (h2 : elemSize P t = some sz) : ∃ e i, P.underlying t = some (.array n e) ∧ P.info? e = some i ∧ i.size = sz := by
  unfold arrLen at h1; unfold elemSize at h2
  split at h1
  · rename_i m e he
    cases h1
    rw [he] at h2; dsimp only at h2
    split at h2
    · rename_i i hi; cases h2; exact ⟨e, i, he, hi, rfl⟩
    · cases h2
  · cases h1
theorem isStr_ok {t : TypeId} (h : isStr P t = true) : P.underlying t = some .string := by
  unfold isStr at h; split at h
  · assumption
  · cases h
theorem add_none (b o n : Nat) : (⟨b, o, none⟩ : Addr).add n = ⟨b, o + n, none⟩ := by unfold Addr.add; split <;> simp_all

theorem good_load {dst : Option Tmp} {ty : TypeId} {pos : String} {after : Array Edge} {g : Option (Nat × Bool)} {t : TypeId} {a : Operand} {ad : Addr} (he : ev f a = .pointer (some ad))
    (h : Load P t ad w fun v => K v w) : Good P f w ⟨dst, .load t a, ty, pos, after, g⟩ K := by
  obtain ⟨v, h1, h2⟩ := h.h
  refine good_v (s := Instr.loadAt t (ev f a)) rfl ⟨v, w, ?_, h2⟩
  rw [he]; simp [Instr.loadAt, Instr.sureAddr, h1]
theorem good_store {dst : Option Tmp} {ty : TypeId} {pos : String} {after : Array Edge} {g : Option (Nat × Bool)} {t : TypeId} {a x : Operand} {ad : Addr} (he : ev f a = .pointer (some ad))
    (h : Store P t ad (ev f x) w fun w' => K undef w') : Good P f w ⟨dst, .store t a x, ty, pos, after, g⟩ K := by
  obtain ⟨w', h1, h2⟩ := h.h
  refine good_u (s := Instr.storeAt t (ev f a) (ev f x)) rfl ⟨w', ?_, h2⟩
  rw [he]; simp [Instr.storeAt, Instr.sureAddr, h1]
theorem cells_eq (v : Value) : (match v with | .agg cs => cs | v => #[v]) = v.cells := by cases v <;> rfl
theorem idx_ok {i : Int} {n : Nat} {Q : Nat → Prop} (h : Idx i n Q) : ∃ j : Nat, i = j ∧ j < n ∧ Q j := h.h
theorem good_indexSlice {dst : Option Tmp} {ty : TypeId} {pos : String} {after : Array Edge} {g : Option (Nat × Bool)} {t : TypeId} {x i : Operand} {b off len cap sz : Nat} {k : IntKind} {ix : Int}
    (hx : ev f x = .slice (some ⟨b, off, none⟩) len cap) (hi : ev f i = .int k ix) (h1 : isSlice P t = true) (h2 : elemSize P t = some sz)
    (h : Idx ix len fun j => K (.pointer (some ⟨b, off + j * sz, none⟩)) w) : Good P f w ⟨dst, .indexAddr t x i, ty, pos, after, g⟩ K := by
  obtain ⟨e, inf, he, hin, rfl⟩ := elem_slice h1 h2
  obtain ⟨j, rfl, hj, hk⟩ := h.h
  refine good_v (s := Instr.indexAt t (ev f x) (ev f i)) rfl ⟨_, w, ?_, hk⟩
  rw [hx, hi]
  simp [Instr.indexAt, asIntOf, und_ok he, size_ok hin, hj, add_none]
theorem good_indexArr {dst : Option Tmp} {ty : TypeId} {pos : String} {after : Array Edge} {g : Option (Nat × Bool)} {t : TypeId} {x i : Operand} {b off n sz : Nat} {k : IntKind} {ix : Int}
    (hx : ev f x = .pointer (some ⟨b, off, none⟩)) (hi : ev f i = .int k ix) (h1 : arrLen P t = some n) (h2 : elemSize P t = some sz)
    (h : Idx ix n fun j => K (.pointer (some ⟨b, off + j * sz, none⟩)) w) : Good P f w ⟨dst, .indexAddr t x i, ty, pos, after, g⟩ K := by
  obtain ⟨e, inf, he, hin, rfl⟩ := elem_arr h1 h2
  obtain ⟨j, rfl, hj, hk⟩ := h.h
  refine good_v (s := Instr.indexAt t (ev f x) (ev f i)) rfl ⟨_, w, ?_, hk⟩
  rw [hx, hi]
  simp [Instr.indexAt, asIntOf, und_ok he, size_ok hin, hj, add_none, Instr.sureAddr]
theorem byteAt_get {s : ByteArray} {j : Nat} (h : j < s.size) : s[j]? = some (byteAt s j) := by
  have h' : j < s.data.toList.length := by simpa using h
  unfold byteAt
  rw [List.getD_eq_getElem?_getD, List.getElem?_eq_getElem h']
  rw [getElem?_pos s j h]
  rfl
theorem good_indexStr {dst : Option Tmp} {ty : TypeId} {pos : String} {after : Array Edge} {g : Option (Nat × Bool)} {t : TypeId} {x i : Operand} {s : ByteArray} {k : IntKind} {ix : Int}
    (hx : ev f x = .string s) (hi : ev f i = .int k ix) (h1 : isStr P t = true)
    (h : Idx ix s.size fun j => K (.int .u8 (byteAt s j).toNat) w) : Good P f w ⟨dst, .index t x i, ty, pos, after, g⟩ K := by
  have he := isStr_ok h1
  obtain ⟨j, rfl, hj, hk⟩ := h.h
  refine good_v (s := Instr.index t (ev f x) (ev f i)) rfl ⟨_, w, ?_, hk⟩
  rw [hx, hi]
  simp [Instr.index, asIntOf, und_ok he, byteAt_get hj]
theorem bound_ok {k : IntKind} {h y : Nat} {code : BoundsCode} (hh : h ≤ y) : (Instr.sliceBound (.int k h) y code).run P w = .ok h w := by
  simp [Instr.sliceBound, asIntOf, hh]
theorem intO_ok {lo : Option Operand} {q : Option Int → Res} (h : (intO f lo q).holds P K) : ∃ li, ((lo.map (ev f) = none ∧ li = none) ∨ ∃ k i, lo.map (ev f) = some (.int k i) ∧ li = some i) ∧ (q li).holds P K := by
  cases lo with
  | none => exact ⟨none, .inl ⟨rfl, rfl⟩, h⟩
  | some o =>
    simp only [intO] at h
    split at h
    · rename_i k i he; exact ⟨some i, .inr ⟨k, i, by simp [he], rfl⟩, h⟩
    · exact h.elim
theorem cut_ok {isS : Bool} {lo hi : Option Operand} {n len : Nat} {mk : Nat → Nat → Value} (h : (intO f lo fun lo => intO f hi fun hi => .need (.cut lo hi n len mk w)).holds P K) :
    ∃ l h, (Instr.sliceBounds isS len n (lo.map (ev f)) (hi.map (ev f)) none).run P w = .ok (l, h, n) w ∧ l ≤ h ∧ h ≤ n ∧ K (mk l h) w := by
  obtain ⟨li, h1, h⟩ := intO_ok h
  obtain ⟨hi', h2, h⟩ := intO_ok h
  have h : Cut li hi' n len fun l h => K (mk l h) w := h
  obtain ⟨l, hh, e1, e2, h3, h4, h5⟩ := h.h
  refine ⟨l, hh, ?_, h3, h4, h5⟩
  unfold Instr.sliceBounds
  rcases h1 with ⟨a1, rfl⟩ | ⟨k1, i1, a1, rfl⟩ <;> rcases h2 with ⟨a2, rfl⟩ | ⟨k2, i2, a2, rfl⟩ <;> simp only [a1, a2] <;> simp at e1 e2 <;> subst e1 <;> subst e2 <;> simp [bound_ok h4, bound_ok h3]
theorem good_cutStr {dst : Option Tmp} {ty : TypeId} {pos : String} {after : Array Edge} {g : Option (Nat × Bool)} {t : TypeId} {x : Operand} {lo hi : Option Operand} {s : ByteArray}
    (hx : ev f x = .string s) (h1 : isStr P t = true) (h : (intO f lo fun lo => intO f hi fun hi => .need (.cut lo hi s.size s.size (fun l h => .string (s.extract l h)) w)).holds P K) : Good P f w ⟨dst, .slice t x lo hi none, ty, pos, after, g⟩ K := by
  have he := isStr_ok h1
  obtain ⟨l, hh, hr, _, _, hk⟩ := cut_ok (P := P) (w := w) (isS := false) h
  refine good_v (s := Instr.sliceAt t (ev f x) (lo.map (ev f)) (hi.map (ev f)) ((none : Option Operand).map (ev f))) rfl ⟨_, w, ?_, hk⟩
  rw [hx]
  simp [Instr.sliceAt, Instr.slice, und_ok he, hr]
theorem good_cutSlice {dst : Option Tmp} {ty : TypeId} {pos : String} {after : Array Edge} {g : Option (Nat × Bool)} {t : TypeId} {x : Operand} {lo hi : Option Operand} {b off len cap sz : Nat}
    (hx : ev f x = .slice (some ⟨b, off, none⟩) len cap) (h1 : isSlice P t = true) (h2 : elemSize P t = some sz)
    (h : (intO f lo fun lo => intO f hi fun hi => .need (.cut lo hi cap len (fun l h => .slice (some ⟨b, if l = cap then off else off + l * sz, none⟩) (h - l) (cap - l)) w)).holds P K) : Good P f w ⟨dst, .slice t x lo hi none, ty, pos, after, g⟩ K := by
  obtain ⟨e, inf, he, hin, rfl⟩ := elem_slice h1 h2
  obtain ⟨l, hh, hr, _, _, hk⟩ := cut_ok (P := P) (w := w) (isS := true) h
  refine good_v (s := Instr.sliceAt t (ev f x) (lo.map (ev f)) (hi.map (ev f)) ((none : Option Operand).map (ev f))) rfl ⟨_, w, ?_, hk⟩
  rw [hx]
  simp only [Instr.sliceAt, Instr.slice, Sem.run_bind, und_ok he, Result.andThen_ok, Option.map_none, hr, size_ok hin, Sem.run_pure, Result.ok.injEq, Value.slice.injEq, and_true]
  by_cases e : l = cap
  · subst e; simp
  · rw [if_neg e, if_neg (fun h => e h.symm)]; simp [add_none]
end Go.Vc
