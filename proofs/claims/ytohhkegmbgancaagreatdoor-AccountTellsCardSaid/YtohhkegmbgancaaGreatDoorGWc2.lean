/- Helper text of this claim: lemmas and contracts that the proved statement rests on; no conditions of its own. -/
import Derived.Test.YtohhkegmbgancaaGreatDoorGKit2
namespace Go.Vc
set_option maxHeartbeats 2000000
open Go Go.Pw
set_option linter.unusedVariables false
set_option linter.unusedSimpArgs false
variable {P : Program} {f : Fr} {w : World} {K : Value → World → Prop}
theorem zbf {P : Program} {e : TypeId} {i : TypeInfo} (h : P.info? e = some i) (w : World) : (sizeOf e).run P w = .ok i.size w := by
 simp [sizeOf, typeInfo, h]
theorem zaG {P : Program} {t : TypeId} {d : TypeDesc} (h : P.underlying t = some d) (w : World) : (underlying t).run P w = .ok d w := by
 simp [underlying, h]
theorem zgd {t : TypeId} {sz : Nat} (h1 : isSlice P t = true) (h2 : elemSize P t = some sz) : ∃ e i, P.underlying t = some (.slice e) ∧ P.info? e = some i ∧ i.size = sz := by
 unfold isSlice at h1; unfold elemSize at h2
 split at h1
 ·rename_i e he
  rw [he] at h2; dsimp only at h2
  split at h2
  ·rename_i i hi; cases h2; exact ⟨e, i, he, hi, rfl⟩
  ·cases h2
 ·cases h1
theorem zmw {t : TypeId} {sz n : Nat} (h1 : arrLen P t = some n) (h2 : elemSize P t = some sz) : ∃ e i, P.underlying t = some (.array n e) ∧ P.info? e = some i ∧ i.size = sz := by
 unfold arrLen at h1; unfold elemSize at h2
 split at h1
 ·rename_i m e he
  cases h1
  rw [he] at h2; dsimp only at h2
  split at h2
  ·rename_i i hi; cases h2; exact ⟨e, i, he, hi, rfl⟩
  ·cases h2
 ·cases h1
theorem zgp {t : TypeId} (h : isStr P t = true) : P.underlying t = some .string := by
 unfold isStr at h; split at h
 ·assumption
 ·cases h
theorem add_none (b o n : Nat) : (⟨b, o, none⟩ : Addr).add n = ⟨b, o + n, none⟩ := by unfold Addr.add; split <;> simp_all
theorem zkL {dst : Option Tmp} {ty : TypeId} {pos : String} {after : Array Edge} {g : Option (Nat × Bool)} {t : TypeId} {a : Operand} {ad : Addr} (he : ev f a = .pointer (some ad))
  (h : Load P t ad w fun v => K v w) : Good P f w ⟨dst, .load t a, ty, pos, after, g⟩ K := by
 obtain ⟨v, h1, h2⟩ := h.h
 refine zaU (s := Instr.loadAt t (ev f a)) rfl ⟨v, w, ?_, h2⟩
 rw [he]; simp [Instr.loadAt, Instr.sureAddr, h1]
theorem zkn {dst : Option Tmp} {ty : TypeId} {pos : String} {after : Array Edge} {g : Option (Nat × Bool)} {t : TypeId} {a x : Operand} {ad : Addr} (he : ev f a = .pointer (some ad))
  (h : Store P t ad (ev f x) w fun w' => K undef w') : Good P f w ⟨dst, .store t a x, ty, pos, after, g⟩ K := by
 obtain ⟨w', h1, h2⟩ := h.h
 refine zjt (s := Instr.storeAt t (ev f a) (ev f x)) rfl ⟨w', ?_, h2⟩
 rw [he]; simp [Instr.storeAt, Instr.sureAddr, h1]
theorem zfn {dst : Option Tmp} {ty : TypeId} {pos : String} {after : Array Edge} {g : Option (Nat × Bool)} {t : TypeId} {x i : Operand} {b off len cap sz : Nat} {k : IntKind} {ix : Int}
  (hx : ev f x = .slice (some ⟨b, off, none⟩) len cap) (hi : ev f i = .int k ix) (h1 : isSlice P t = true) (h2 : elemSize P t = some sz)
  (h : Idx ix len fun j => K (.pointer (some ⟨b, off + j * sz, none⟩)) w) : Good P f w ⟨dst, .indexAddr t x i, ty, pos, after, g⟩ K := by
 obtain ⟨e, inf, he, hin, rfl⟩ := zgd h1 h2
 obtain ⟨j, rfl, hj, hk⟩ := h.h
 refine zaU (s := Instr.indexAt t (ev f x) (ev f i)) rfl ⟨_, w, ?_, hk⟩
 rw [hx, hi]
 simp [Instr.indexAt, asIntOf, zaG he, zbf hin, hj, add_none]
theorem zgK {dst : Option Tmp} {ty : TypeId} {pos : String} {after : Array Edge} {g : Option (Nat × Bool)} {t : TypeId} {x i : Operand} {b off n sz : Nat} {k : IntKind} {ix : Int}
  (hx : ev f x = .pointer (some ⟨b, off, none⟩)) (hi : ev f i = .int k ix) (h1 : arrLen P t = some n) (h2 : elemSize P t = some sz)
  (h : Idx ix n fun j => K (.pointer (some ⟨b, off + j * sz, none⟩)) w) : Good P f w ⟨dst, .indexAddr t x i, ty, pos, after, g⟩ K := by
 obtain ⟨e, inf, he, hin, rfl⟩ := zmw h1 h2
 obtain ⟨j, rfl, hj, hk⟩ := h.h
 refine zaU (s := Instr.indexAt t (ev f x) (ev f i)) rfl ⟨_, w, ?_, hk⟩
 rw [hx, hi]
 simp [Instr.indexAt, asIntOf, zaG he, zbf hin, hj, add_none, Instr.sureAddr]
theorem zkp {s : ByteArray} {j : Nat} (h : j < s.size) : s[j]? = some (byteAt s j) := by
 have h' : j < s.data.toList.length := by simpa using h
 unfold byteAt
 rw [List.getD_eq_getElem?_getD, List.getElem?_eq_getElem h']
 rw [getElem?_pos s j h]
 rfl
theorem zgr {dst : Option Tmp} {ty : TypeId} {pos : String} {after : Array Edge} {g : Option (Nat × Bool)} {t : TypeId} {x i : Operand} {s : ByteArray} {k : IntKind} {ix : Int}
  (hx : ev f x = .string s) (hi : ev f i = .int k ix) (h1 : isStr P t = true)
  (h : Idx ix s.size fun j => K (.int .u8 (byteAt s j).toNat) w) : Good P f w ⟨dst, .index t x i, ty, pos, after, g⟩ K := by
 have he := zgp h1
 obtain ⟨j, rfl, hj, hk⟩ := h.h
 refine zaU (s := Instr.index t (ev f x) (ev f i)) rfl ⟨_, w, ?_, hk⟩
 rw [hx, hi]
 simp [Instr.index, asIntOf, zaG he, zkp hj]
theorem zdg {k : IntKind} {h y : Nat} {code : BoundsCode} (hh : h ≤ y) : (Instr.sliceBound (.int k h) y code).run P w = .ok h w := by
 simp [Instr.sliceBound, asIntOf, hh]
theorem zlb {lo : Option Operand} {q : Option Int → Res} (h : (intO f lo q).holds P K) : ∃ li, ((lo.map (ev f) = none ∧ li = none) ∨ ∃ k i, lo.map (ev f) = some (.int k i) ∧ li = some i) ∧ (q li).holds P K := by
 cases lo with
 | none => exact ⟨none, .inl ⟨rfl, rfl⟩, h⟩
 | some o =>
  simp only [intO] at h
  split at h
  ·rename_i k i he; exact ⟨some i, .inr ⟨k, i, by simp [he], rfl⟩, h⟩
  ·exact h.elim
theorem znL {isS : Bool} {lo hi : Option Operand} {n len : Nat} {mk : Nat → Nat → Value} (h : (intO f lo fun lo => intO f hi fun hi => .need (.cut lo hi n len mk w)).holds P K) :
  ∃ l h, (Instr.sliceBounds isS len n (lo.map (ev f)) (hi.map (ev f)) none).run P w = .ok (l, h, n) w ∧ l ≤ h ∧ h ≤ n ∧ K (mk l h) w := by
 obtain ⟨li, h1, h⟩ := zlb h
 obtain ⟨hi', h2, h⟩ := zlb h
 have h : Cut li hi' n len fun l h => K (mk l h) w := h
 obtain ⟨l, hh, e1, e2, h3, h4, h5⟩ := h.h
 refine ⟨l, hh, ?_, h3, h4, h5⟩
 unfold Instr.sliceBounds
 rcases h1 with ⟨a1, rfl⟩ | ⟨k1, i1, a1, rfl⟩ <;> rcases h2 with ⟨a2, rfl⟩ | ⟨k2, i2, a2, rfl⟩ <;> simp only [a1, a2] <;> simp at e1 e2 <;> subst e1 <;> subst e2 <;> simp [zdg h4, zdg h3]
theorem zih {dst : Option Tmp} {ty : TypeId} {pos : String} {after : Array Edge} {g : Option (Nat × Bool)} {t : TypeId} {x : Operand} {lo hi : Option Operand} {s : ByteArray}
  (hx : ev f x = .string s) (h1 : isStr P t = true) (h : (intO f lo fun lo => intO f hi fun hi => .need (.cut lo hi s.size s.size (fun l h => .string (s.extract l h)) w)).holds P K) : Good P f w ⟨dst, .slice t x lo hi none, ty, pos, after, g⟩ K := by
 have he := zgp h1
 obtain ⟨l, hh, hr, _, _, hk⟩ := znL (P := P) (w := w) (isS := false) h
 refine zaU (s := Instr.sliceAt t (ev f x) (lo.map (ev f)) (hi.map (ev f)) ((none : Option Operand).map (ev f))) rfl ⟨_, w, ?_, hk⟩
 rw [hx]
 simp [Instr.sliceAt, Instr.slice, zaG he, hr]
theorem zgA {dst : Option Tmp} {ty : TypeId} {pos : String} {after : Array Edge} {g : Option (Nat × Bool)} {t : TypeId} {x : Operand} {lo hi : Option Operand} {b off len cap sz : Nat}
  (hx : ev f x = .slice (some ⟨b, off, none⟩) len cap) (h1 : isSlice P t = true) (h2 : elemSize P t = some sz)
  (h : (intO f lo fun lo => intO f hi fun hi => .need (.cut lo hi cap len (fun l h => .slice (some ⟨b, if l = cap then off else off + l * sz, none⟩) (h - l) (cap - l)) w)).holds P K) : Good P f w ⟨dst, .slice t x lo hi none, ty, pos, after, g⟩ K := by
 obtain ⟨e, inf, he, hin, rfl⟩ := zgd h1 h2
 obtain ⟨l, hh, hr, _, _, hk⟩ := znL (P := P) (w := w) (isS := true) h
 refine zaU (s := Instr.sliceAt t (ev f x) (lo.map (ev f)) (hi.map (ev f)) ((none : Option Operand).map (ev f))) rfl ⟨_, w, ?_, hk⟩
 rw [hx]
 simp only [Instr.sliceAt, Instr.slice, Sem.run_bind, zaG he, Result.andThen_ok, Option.map_none, hr, zbf hin, Sem.run_pure, Result.ok.injEq, Value.slice.injEq, and_true]
 by_cases e : l = cap
 ·subst e; simp
 ·rw [if_neg e, if_neg (fun h => e h.symm)]; simp [add_none]
end Go.Vc
namespace Go.Vc
set_option maxHeartbeats 2000000
open Go Go.Pw
set_option linter.unusedVariables false
set_option linter.unusedSimpArgs false
variable {P : Program} {f : Fr} {w : World} {K : Value → World → Prop}
theorem zdN (a b : ByteArray) : (a.toList == b.toList) = decide (a = b) := by
 rw [Bool.eq_iff_iff]
 simp only [beq_iff_eq, ByteArray.toList_eq, decide_eq_true_eq]
 exact ⟨fun h => ByteArray.ext (Array.ext' h), fun h => by rw [h]⟩
section
variable {dst : Option Tmp} {ty : TypeId} {pos : String} {after : Array Edge} {g : Option (Nat × Bool)}
theorem znt {e : TypeId} {x : Operand} (h : K (.pointer (some ⟨w.heap.size, 0, none⟩)) (w.alloc (.cells (ev f x).cells e))) : Good P f w ⟨dst, .box e x, ty, pos, after, g⟩ K := by
 exact zaU (s := Instr.box e (ev f x)) rfl ⟨_, _, rfl, h⟩
theorem zgh {e : TypeId} {i : TypeInfo} {z : Value} (hi : P.info? e = some i) (hz : i.zero = some z)
  (h : K (.pointer (some ⟨w.heap.size, 0, none⟩)) (w.alloc (.cells z.cells e))) : Good P f w ⟨dst, .alloc e, ty, pos, after, g⟩ K := by
 refine zaU (s := Instr.alloc e true (.tuple #[])) rfl ⟨_, _, ?_, h⟩
 have : (zeroValue e).run P w = .ok z w := by simp [zeroValue, typeInfo, hi, hz]
 unfold Instr.alloc
 rw [Sem.run_bind, this]
 rfl
theorem zbW {b : BinOp} {t yt : TypeId} {x y : Operand} {k : IntKind} {a c e : Int} (hx : ev f x = .int k a) (hy : ev f y = .int k c)
  (he : ∀ w, (do eqGuard b t x y (.int k a) (.int k c); binOp b t (.int k a) (.int k c) : Sem Value).run P w = .ok (.int k (k.wrap e)) w) (h : Num k e fun n => K (.int k n) w) : Good P f w ⟨dst, .binOp b t x y yt, ty, pos, after, g⟩ K := by
 refine zaU (s := do eqGuard b t x y (ev f x) (ev f y); binOp b t (ev f x) (ev f y)) rfl ⟨_, w, ?_, h.h⟩
 rw [hx, hy]; exact he w
theorem zls {c : Go.Call} {fo : Operand} {v : Value} (hc : c.callee = .value fo) (hv : ev f fo = v) (h : (callV f w c v).holds P K) : Good P f w ⟨dst, .call c, ty, pos, after, g⟩ K := by
 unfold callV at h
 split at h
 ·rename_i gn first cap
  split at h
  ·rename_i hfirst
   have hfirst : first = #[] := by apply Array.ext'; simpa using hfirst
   subst hfirst
   rw [zbz] at h
   have hcs : CallS P gn (c.args.toList.map (ev f) ++ cap.toList) w K := by
    split at h
    ·rename_i hc; rw [hc, List.append_nil]; exact h
    ·exact h
   have he : execOp (ev f) ⟨dst, .call c, ty, pos, after, g⟩ = (do let d ← resolve (ev f) c ty; invoke d.target d.args) := rfl
   have hd : resolve (ev f) c ty = pure { target := .fn (.func gn) cap, args := c.args.map (ev f) } := by
    unfold resolve; rw [hc]; simp only [hv, Deferred.ofValue]; simp
   have ha : c.args.map (ev f) ++ cap = (c.args.toList.map (ev f) ++ cap.toList).toArray := by
    apply Array.ext'; simp
   have hrun : (execOp (ev f) ⟨dst, .call c, ty, pos, after, g⟩).run P w = (callFunc gn (c.args.toList.map (ev f) ++ cap.toList).toArray).run P w := by
    rw [he, hd]
    simp only [Sem.run_bind, Sem.run_pure, Result.andThen_ok, invoke]
    rw [ha]
   rcases hcs.h with ⟨h1, h2⟩ | ⟨v', w', h1, h2⟩
   ·exact .inr (.inr ⟨gn, _, hrun.trans h1, h2⟩)
   ·exact .inl ⟨v', w', hrun.trans h1, h2⟩
  ·exact h.elim
 ·exact h.elim
theorem zjJ {s fl : Nat} {x : Operand} {b off d : Nat} (hx : ev f x = .pointer (some ⟨b, off, none⟩)) (hd : fieldOff P s fl = some d) (h : K (.pointer (some ⟨b, off + d, none⟩)) w) :
  Good P f w ⟨dst, .fieldAddr s x fl, ty, pos, after, g⟩ K := by
 unfold fieldOff at hd
 split at hd
 ·rename_i fs hu
  split at hd
  ·rename_i fd hf
   split at hd
   ·rename_i i hi
    split at hd
    ·rename_i hz
     have hz : i.size ≠ 0 := fun e => by rw [e] at hz; cases hz
     cases hd
     refine zaU (s := Instr.fieldAt s (ev f x) fl) rfl ⟨_, w, ?_, h⟩
     rw [hx]
     simp [Instr.fieldAt, zaG hu, hf, Instr.sureAddr, fieldPlace, zbf hi, hz, add_none]
    ·cases hd
   ·cases hd
  ·cases hd
 ·cases hd
theorem zlc {c : Go.Call} : execOp (ev f) ⟨dst, .call c, ty, pos, after, g⟩ = (do let d ← resolve (ev f) c ty; invoke d.target d.args) := rfl
theorem zbt {c : Go.Call} {b : Builtin} (hc : c.callee = .builtin b) : (execOp (ev f) ⟨dst, .call c, ty, pos, after, g⟩).run P w =
  (builtin b c.argTypes ty (c.args.map fun | .const _ => true | _ => false) (c.args.toList.map (ev f)).toArray).run P w := by
 have ha : c.args.map (ev f) = (List.map (ev f) c.args.toList).toArray := by apply Array.ext'; simp
 rw [zlc]
 unfold resolve; rw [hc]
 simp only [Sem.run_bind, Sem.run_pure, Result.andThen_ok, invoke, ha]
 rfl
theorem good_builtin' {c : Go.Call} {b : Builtin} (hc : c.callee = .builtin b) (h : RunN P (builtin b c.argTypes ty (c.args.map fun | .const _ => true | _ => false) (c.args.toList.map (ev f)).toArray) w K) : Good P f w ⟨dst, .call c, ty, pos, after, g⟩ K := by
 obtain ⟨v, w', hr, hk⟩ := h.h
 exact .inl ⟨v, w', by rw [zbt hc]; exact hr, hk⟩
theorem zho {c : Go.Call} (hc : c.callee = .builtin .len) (h : RunN P (builtin .len c.argTypes ty #[false] (c.args.toList.map (ev f)).toArray) w K) : Good P f w ⟨dst, .call c, ty, pos, after, g⟩ K := by
 obtain ⟨v, w', hr, hk⟩ := h.h
 exact .inl ⟨v, w', by rw [zbt hc]; exact hr, hk⟩
theorem zhp {c : Go.Call} {t : TypeId} {s : ByteArray} (hc : c.callee = .builtin .len) (ht : c.argTypes.toList = [t]) (hu : P.underlying t = some .string) (hs : c.args.toList.map (ev f) = [.string s]) (h : K (.int .i64 s.size) w) :
  Good P f w ⟨dst, .call c, ty, pos, after, g⟩ K := by
 have ht : c.argTypes = #[t] := by apply Array.ext'; simpa using ht
 refine .inl ⟨_, w, ?_, h⟩
 rw [zbt hc, hs, ht]
 simp [builtin, Builtin.len_, zaG hu, goInt]
theorem zfx {c : Go.Call} {t : TypeId} {a : Option Addr} {n cp : Nat} (hc : c.callee = .builtin .len) (ht : c.argTypes.toList = [t]) (hu : isSlice P t = true) (hs : c.args.toList.map (ev f) = [.slice a n cp]) (h : K (.int .i64 n) w) :
  Good P f w ⟨dst, .call c, ty, pos, after, g⟩ K := by
 have ht : c.argTypes = #[t] := by apply Array.ext'; simpa using ht
 unfold isSlice at hu
 split at hu
 ·rename_i e he
  refine .inl ⟨_, w, ?_, h⟩
  rw [zbt hc, hs, ht]
  simp [builtin, Builtin.len_, zaG he, goInt]
 ·cases hu
theorem zmR {c : Go.Call} {k k' : IntKind} {a b : Int} (hc : c.callee = .builtin .min) (hs : c.args.toList.map (ev f) = [.int k a, .int k' b]) (h : K (.int k (min a b)) w) : Good P f w ⟨dst, .call c, ty, pos, after, g⟩ K := by
 refine .inl ⟨_, w, ?_, h⟩
 rw [zbt hc, hs]
 simp [builtin, Builtin.min_, Builtin.min2]
 omega
theorem zmA {c : Go.Call} {k k' : IntKind} {a b : Int} (hc : c.callee = .builtin .max) (hs : c.args.toList.map (ev f) = [.int k a, .int k' b]) (h : K (.int k (max a b)) w) : Good P f w ⟨dst, .call c, ty, pos, after, g⟩ K := by
 refine .inl ⟨_, w, ?_, h⟩
 rw [zbt hc, hs]
 simp [builtin, Builtin.max_, Builtin.max2]
 omega
end
theorem zgM {o : Oper} (h : (opRes P f w o).holds P K) : Good P f w o K := by
 obtain ⟨dst, op, ty, pos, after, g⟩ := o
 cases op with
 | load t a =>
  simp only [opRes] at h
  split at h
  ·rename_i he; exact zkL he h
  ·exact h.elim
 | store t a x =>
  simp only [opRes] at h
  split at h
  ·rename_i he; rw [zaX] at h; exact zkn he h
  ·exact h.elim
 | box e x =>
  simp only [opRes, zaX] at h
  refine znt ?_
  split at h
  ·rename_i he; rw [he]; exact h
  ·rename_i hn
   have : (ev f x).cells = #[ev f x] := by
    cases hv : ev f x <;> first | rfl | exact (hn _ hv).elim
   rw [this]; exact h
 | alloc e =>
  simp only [opRes] at h
  split at h
  ·rename_i i hi
   split at h
   ·rename_i cs hz; exact zgh hi hz h
   ·rename_i z hn hz
    rw [zaX] at h
    refine zgh hi hz ?_
    have : z.cells = #[z] := by
     cases z <;> first | rfl | exact (hn _ rfl).elim
    rw [this]; exact h
   ·exact h.elim
  ·exact h.elim
 | binOp b t x y yt =>
  cases b
  case add =>
   simp only [opRes] at h
   split at h
   ·rename_i hx hy; exact zbW hx hy (fun _ => rfl) h
   ·rename_i hx hy; exact zbW hx hy (fun _ => rfl) h
   ·rename_i hx hy; exact zbW hx hy (fun _ => rfl) h
   ·rename_i hx hy
    refine zaU (s := do eqGuard .add t x y (ev f x) (ev f y); binOp .add t (ev f x) (ev f y)) rfl ?_
    obtain ⟨v, w', h1, h2⟩ := RunV.h h
    refine ⟨v, w', ?_, h2⟩
    rw [hx, hy]; exact h1
   ·exact zbv h
  case sub =>
   simp only [opRes] at h
   split at h
   ·rename_i hx hy; exact zbW hx hy (fun _ => rfl) h
   ·rename_i hx hy; exact zbW hx hy (fun _ => rfl) h
   ·rename_i hx hy; exact zbW hx hy (fun _ => rfl) h
   ·exact zbv h
  case mul =>
   simp only [opRes] at h
   split at h
   ·rename_i hx hy; exact zbW hx hy (fun _ => rfl) h
   ·rename_i hx hy; exact zbW hx hy (fun _ => rfl) h
   ·exact zbv h
  case eql =>
   simp only [opRes] at h
   split at h
   ·rename_i a c hx hy
    refine zaU (s := do eqGuard .eql t x y (ev f x) (ev f y); binOp .eql t (ev f x) (ev f y)) rfl ⟨_, _, ?_, h⟩
    rw [hx, hy, ← zdN]; rfl
   ·rename_i hx hy
    refine zaU (s := do eqGuard .eql t x y (ev f x) (ev f y); binOp .eql t (ev f x) (ev f y)) rfl ?_
    obtain ⟨v, w', h1, h2⟩ := RunV.h h
    refine ⟨v, w', ?_, h2⟩
    rw [hx, hy]; exact h1
   ·exact zbv h
  case neq =>
   simp only [opRes] at h
   split at h
   ·rename_i a c hx hy
    refine zaU (s := do eqGuard .neq t x y (ev f x) (ev f y); binOp .neq t (ev f x) (ev f y)) rfl ⟨_, _, ?_, h⟩
    rw [hx, hy, ← zdN]; rfl
   ·rename_i hx hy
    refine zaU (s := do eqGuard .neq t x y (ev f x) (ev f y); binOp .neq t (ev f x) (ev f y)) rfl ?_
    obtain ⟨v, w', h1, h2⟩ := RunV.h h
    refine ⟨v, w', ?_, h2⟩
    rw [hx, hy]; exact h1
   ·exact zbv h
  all_goals exact zbv h
 | fieldAddr s x fl =>
  simp only [opRes] at h
  split at h
  ·rename_i hx
   split at h
   ·rename_i d hd
    rw [zdv] at h
    refine zjJ hx hd ?_
    split at h
    ·rename_i h0; rw [Nat.eq_of_beq_eq_true h0]; exact h
    ·exact h
   ·exact zbv h
  ·exact zbv h
 | indexAddr t x i =>
  simp only [opRes] at h
  split at h
  ·rename_i hx hi
   split at h
   ·rename_i h1 h2
    rw [zdv] at h
    refine zfn hx hi h1 h2 ?_
    split at h
    ·rename_i hb; rw [Nat.eq_of_beq_eq_true hb]; simp only [Nat.mul_one]; exact h
    ·exact h
   ·exact h.elim
  ·rename_i hx hi
   split at h
   ·rename_i h1 h2
    simp only [zdv] at h
    refine zgK hx hi h1 h2 ?_
    split at h
    ·rename_i hb; rw [Nat.eq_of_beq_eq_true hb]; simp only [Nat.mul_one]; exact h
    ·exact h
   ·exact h.elim
  ·exact h.elim
 | index t x i =>
  simp only [opRes] at h
  split at h
  ·rename_i hx hi
   split at h
   ·rename_i h1; exact zgr hx hi h1 h
   ·exact h.elim
  ·exact zaU (s := Instr.index t (ev f x) (ev f i)) rfl (RunV.h h)
 | slice t x lo hi mx =>
  cases mx with
  | some m => exact zaU (s := Instr.sliceAt t (ev f x) (lo.map (ev f)) (hi.map (ev f)) ((some m : Option Operand).map (ev f))) rfl (RunV.h h)
  | none =>
   simp only [opRes] at h
   split at h
   ·rename_i hx
    split at h
    ·rename_i h1; exact zih hx h1 h
    ·exact h.elim
   ·rename_i hx
    split at h
    ·rename_i h1 h2; simp only [zdv] at h; exact zgA hx h1 h2 h
    ·exact h.elim
   ·rename_i hx1 hx2; exact zaU (s := Instr.sliceAt t (ev f x) (lo.map (ev f)) (hi.map (ev f)) ((none : Option Operand).map (ev f))) rfl (RunV.h h)
 | pick c a b =>
  simp only [opRes, zaX] at h
  split at h
  ·rename_i t ht
   have h : Br t (K (ev f a) w) (K (ev f b) w) := h
   refine .inl ⟨if t then ev f a else ev f b, w, ?_, ?_⟩
   ·show (do pure (Next.value (if ← asBool (ev f c) then ev f a else ev f b)) : Sem Next).run P w = _
    rw [ht]; simp [asBool]
   ·cases t
    ·exact h.f rfl
    ·exact h.t rfl
  ·exact h.elim
 | build t ps =>
  simp only [opRes, zeI] at h
  have e : (ps.toList.map fun p => (p.1, ev f p.2)).toArray = ps.map fun (i, x) => (i, ev f x) := by apply Array.ext'; simp
  rw [e] at h
  have h : RunV P (Instr.build t (ps.map fun (i, x) => (i, ev f x))) w K := h
  exact zaU (s := Instr.build t (ps.map fun (i, x) => (i, ev f x))) rfl h.h
 | call c =>
  simp only [opRes] at h
  split at h
  ·rename_i hc
   split at h
   ·rename_i t ht
    split at h
    ·rename_i h1
     rw [zbz] at h
     split at h
     ·rename_i s hs; exact zhp hc ht (zgp (by assumption)) hs h
     ·exact h.elim
    ·rename_i h1 h2
     rw [zbz] at h
     split at h
     ·rename_i a n cp hs; exact zfx hc ht (by assumption) hs h
     ·exact h.elim
    ·rw [zbz] at h; exact zho hc h
   ·exact h.elim
  ·rename_i hc
   rw [zbz] at h
   split at h
   ·rename_i hs; exact zmR hc hs h
   ·exact h.elim
  ·rename_i hc
   rw [zbz] at h
   split at h
   ·rename_i hs; exact zmA hc hs h
   ·exact h.elim
  ·rename_i b h1 h2 h3 hc
   rw [zbz] at h
   exact good_builtin' hc h
  ·rename_i fo hc; exact zls hc rfl h
  ·exact h.elim
 | next it s => exact zaU (s := Instr.next (ev f it) s ty) rfl (RunV.h h)
 | range t x => exact zaU (s := Instr.range t (ev f x)) rfl (RunV.h h)
 | entry it => exact zaU (s := Instr.entry (ev f it)) rfl (RunV.h h)
 | makeSlice t l c => simp only [opRes, zaX] at h; exact zaU (s := Instr.makeSlice t (ev f l) (ev f c)) rfl (RunV.h h)
 | buildSlice t n ps =>
  simp only [opRes, zeI] at h
  have e : (ps.toList.map fun p => (p.1, ev f p.2)).toArray = ps.map fun (i, x) => (i, ev f x) := by apply Array.ext'; simp
  rw [e] at h
  have h : RunV P (Instr.buildSlice t n (ps.map fun (i, x) => (i, ev f x))) w K := h
  exact zaU (s := Instr.buildSlice t n (ps.map fun (i, x) => (i, ev f x))) rfl h.h
 | makeMap t r => exact zaU (s := Instr.makeMap t (r.map (ev f))) rfl (RunV.h h)
 | lookup t x i ok => simp only [opRes, zaX] at h; exact zaU (s := Instr.lookup t (ev f x) (ev f i) ok) rfl (RunV.h h)
 | mapUpdate t m k x => simp only [opRes, zaX] at h; exact zjt (s := Instr.mapUpdate t (ev f m) (ev f k) (ev f x)) rfl (RunU.h h)
 | insert t m k x => simp only [opRes, zaX] at h; exact zjt (s := Instr.mapUpdate t (ev f m) (ev f k) (ev f x)) rfl (RunU.h h)
 | mapEntry t m k => simp only [opRes, zaX] at h; exact zaU (s := Instr.mapEntry t (ev f m) (ev f k)) rfl (RunV.h h)
 | entryStore t m s x => simp only [opRes, zaX] at h; exact zjt (s := Instr.entryStore t (ev f m) (ev f s) (ev f x)) rfl (RunU.h h)
 | convert s d x =>
  simp only [opRes] at h
  split at h
  ·exact zbv h
  ·exact zaU (s := convert s d (ev f x)) rfl (RunV.h h)
 | _ => exact zbv h
end Go.Vc
namespace Go.Pw
set_option maxHeartbeats 2000000
open Go
set_option linter.unusedVariables false
structure Kp (w w' : World) (c : Nat → Prop) : Prop where
 os : w'.os = w.os
 tape : w'.tape = w.tape
 output : w'.output = w.output
 size : w.heap.size ≤ w'.heap.size
 block : ∀ k, k < w.heap.size → ¬ c k → w'.heap[k]? = w.heap[k]?
def n_ : Nat → Prop := fun _ => False
def one_ (b : Nat) : Nat → Prop := fun k => k = b
theorem Kp.refl (w : World) (c : Nat → Prop) : Kp w w c := ⟨rfl, rfl, rfl, Nat.le_refl _, fun _ _ _ => rfl⟩
theorem Kp.trans {a b d : World} {c c' : Nat → Prop} (h : Kp a b c) (k : Kp b d c') (hc : ∀ i, i < a.heap.size → c' i → c i) : Kp a d c :=
 ⟨k.os.trans h.os, k.tape.trans h.tape, k.output.trans h.output, Nat.le_trans h.size k.size, fun i hi hn =>
  (k.block i (Nat.lt_of_lt_of_le hi h.size) (fun h' => hn (hc i hi h'))).trans (h.block i hi hn)⟩
theorem Kp.trans' {a b d : World} {c : Nat → Prop} (h : Kp a b c) (k : Kp b d c) : Kp a d c := h.trans k fun _ _ h => h
theorem Kp.trans0 {a b d : World} {c : Nat → Prop} (h : Kp a b c) (k : Kp b d n_) : Kp a d c := h.trans k fun _ _ h => h.elim
theorem Kp.mono {a b : World} {c c' : Nat → Prop} (h : Kp a b c) (hc : ∀ i, i < a.heap.size → c i → c' i) : Kp a b c' :=
 ⟨h.os, h.tape, h.output, h.size, fun i hi hn => h.block i hi fun h' => hn (hc i hi h')⟩
theorem Kp.of_none {a b : World} {c : Nat → Prop} (h : Kp a b n_) : Kp a b c := h.mono fun _ _ h => h.elim
theorem Kp.drew {a w : World} {c : Nat → Prop} (h : Kp a w c) : Kp a w.drew c := ⟨h.os, h.tape, h.output, h.size, h.block⟩
theorem Kp.alloc {a w : World} {c : Nat → Prop} (h : Kp a w c) (o : Obj) : Kp a (w.alloc o) c :=
 ⟨h.os, h.tape, h.output, by have := h.size; simp; omega, fun k hk hn => by
  rw [← h.block k hk hn]; exact RowKit.Below.heap_alloc _ _ _ (Nat.lt_of_lt_of_le hk h.size)⟩
theorem Kp.setCell {a w : World} {c : Nat → Prop} (h : Kp a w c) {p : Addr} (hp : c p.block ∨ a.heap.size ≤ p.block) (v : Value) : Kp a (w.setCell p v) c :=
 ⟨h.os, h.tape, h.output, by have := h.size; simp; omega, fun k hk hn => by
  rw [← h.block k hk hn]
  exact RowKit.Below.heap_setCell _ _ _ _ (fun e => by rcases hp with hp | hp; exact hn (e ▸ hp); omega)⟩
theorem Kp.below {w w' : World} (h : Kp w w' n_) : RowKit.Below w.heap.size w w' := ⟨h.os, h.tape, h.output, h.size, fun k hk => h.block k hk id⟩
theorem Kp.of_below {w w' : World} {c : Nat → Prop} (h : RowKit.Below w.heap.size w w') : Kp w w' c := ⟨h.os, h.tape, h.output, h.size, fun k hk _ => h.block k hk⟩
theorem Kp.cell {w w' : World} {c : Nat → Prop} (h : Kp w w' c) {p : Addr} (hp : p.block < w.heap.size) (hc : ¬ c p.block) : w'.cell? p = w.cell? p := World.cell?_of_block (w := w) (h.block _ hp hc)
theorem Kp.frozen {w w' : World} {c : Nat → Prop} (h : Kp w w' c) {p : Addr} (hp : p.block < w.heap.size) (hc : ¬ c p.block) : w'.frozen? p = w.frozen? p := World.frozen?_of_block (w := w) (h.block _ hp hc)
theorem Kp.shape {w w' : World} {c : Nat → Prop} (h : Kp w w' c) {b : Nat} (hp : b < w.heap.size) (hc : ¬ c b) : w'.shape? b = w.shape? b := by
 unfold World.shape?; rw [h.block _ hp hc]
theorem zjr {w : World} {b : Nat} {x : TypeId × Nat} (h : w.shape? b = some x) : b < w.heap.size := by
 unfold World.shape? at h
 by_cases hb : b < w.heap.size
 ·exact hb
 ·rw [Array.getElem?_eq_none (by omega)] at h; cases h
theorem cell_lt {w : World} {p : Addr} {v : Value} (h : w.cell? p = some v) : p.block < w.heap.size := by
  unfold World.cell? at h
  by_cases hb : p.block < w.heap.size
  ·exact hb
  ·rw [Array.getElem?_eq_none (by omega)] at h; cases h
theorem ziy {w : World} {p : Addr} {u v : Value} (h : w.cell? p = some v) : (w.setCell p u).cell? p = some u := World.cell?_setCell_same w p u h
def Ints (T : TypeId) (w : World) (v : Value) (zs : List Int) : Prop :=
 (v = .slice none 0 0 ∧ zs = []) ∨
 ∃ kb ko cap n, v = .slice (some ⟨kb, ko, none⟩) zs.length cap ∧ w.shape? kb = some (T, n) ∧ zs.length ≤ 9223372036854775807 ∧
  ∀ i, i < zs.length → w.cell? ⟨kb, ko + i, none⟩ = some (.int .i64 (zs.getD i 0))
theorem Ints.keep {T : TypeId} {w w' : World} {c : Nat → Prop} {v : Value} {zs : List Int} (h : Ints T w v zs) (k : Kp w w' c) (hc : ∀ b n, w.shape? b = some (T, n) → ¬ c b) : Ints T w' v zs := by
 rcases h with h | ⟨kb, ko, cap, n, rfl, hs, hl, hcell⟩
 ·exact .inl h
 ·exact .inr ⟨kb, ko, cap, n, rfl, by rw [k.shape (zjr hs) (hc _ _ hs)]; exact hs, hl, fun i hi => by rw [k.cell (zjr hs) (hc _ _ hs)]; exact hcell i hi⟩
end Go.Pw
