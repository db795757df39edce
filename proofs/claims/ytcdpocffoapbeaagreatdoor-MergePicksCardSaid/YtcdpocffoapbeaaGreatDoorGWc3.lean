/- Helper text of this claim: Wc3, Kit3: lemmas and contracts that the proved statement rests on; no conditions of its own. -/
import Derived.Test.YtcdpocffoapbeaaGreatDoorGWc
import Derived.Test.YtcdpocffoapbeaaGreatDoorGKitX
namespace Go.Vc
set_option linter.unusedVariables false
open Go Go.Pw
set_option linter.unusedVariables false
set_option linter.unusedSimpArgs false
variable {P : Program} {f : Fr} {w : World} {K : Value → World → Prop}

theorem toList_beq (a b : ByteArray) : (a.toList == b.toList) = decide (a = b) := by
  rw [Bool.eq_iff_iff]
  simp only [beq_iff_eq, ByteArray.toList_eq, decide_eq_true_eq]
  exact ⟨fun h => ByteArray.ext (Array.ext' h), fun h => by rw [h]⟩
section
variable {dst : Option Tmp} {ty : TypeId} {pos : String} {after : Array Edge} {g : Option (Nat × Bool)}
theorem good_box {e : TypeId} {x : Operand} (h : K (.pointer (some ⟨w.heap.size, 0, none⟩)) (w.alloc (.cells (ev f x).cells e))) : Good P f w ⟨dst, .box e x, ty, pos, after, g⟩ K := by
  exact good_v (s := Instr.box e (ev f x)) rfl ⟨_, _, rfl, h⟩
theorem good_alloc {e : TypeId} {i : TypeInfo} {z : Value} (hi : P.info? e = some i) (hz : i.zero = some z)
    (h : K (.pointer (some ⟨w.heap.size, 0, none⟩)) (w.alloc (.cells z.cells e))) : Good P f w ⟨dst, .alloc e, ty, pos, after, g⟩ K := by
  refine good_v (s := Instr.alloc e true (.tuple #[])) rfl ⟨_, _, ?_, h⟩
  have : (zeroValue e).run P w = .ok z w := by simp [zeroValue, typeInfo, hi, hz]
  unfold Instr.alloc
  rw [Sem.run_bind, this]
  rfl
theorem good_num {b : BinOp} {t yt : TypeId} {x y : Operand} {k : IntKind} {a c e : Int} (hx : ev f x = .int k a) (hy : ev f y = .int k c)
    (he : ∀ w, (do eqGuard b t x y (.int k a) (.int k c); binOp b t (.int k a) (.int k c) : Sem Value).run P w = .ok (.int k (k.wrap e)) w) (h : Num k e fun n => K (.int k n) w) : Good P f w ⟨dst, .binOp b t x y yt, ty, pos, after, g⟩ K := by
  refine good_v (s := do eqGuard b t x y (ev f x) (ev f y); binOp b t (ev f x) (ev f y)) rfl ⟨_, w, ?_, h.h⟩
  rw [hx, hy]; exact he w
theorem good_call {c : Go.Call} {fo : Operand} {v : Value} (hc : c.callee = .value fo) (hv : ev f fo = v) (h : (callV f w c v).holds P K) : Good P f w ⟨dst, .call c, ty, pos, after, g⟩ K := by
  unfold callV at h
  split at h
  · rename_i gn first cap
    have hcs : CallS P gn (first.toList ++ c.args.toList.map (ev f) ++ cap.toList) w K := by
      split at h
      · rename_i hfirst
        rw [forceL_eq] at h
        rw [hfirst, List.nil_append]
        split at h
        · rename_i hc; rw [hc, List.append_nil]; exact h
        · exact h
      · rename_i a hfirst
        rw [forceL_eq] at h
        rw [hfirst]
        split at h
        · rename_i hc; rw [hc, List.append_nil]; exact h
        · exact h
      · exact h.elim
    have he : execOp (ev f) ⟨dst, .call c, ty, pos, after, g⟩ = (do let d ← resolve (ev f) c ty; invoke d.target d.args) := rfl
    have hd : resolve (ev f) c ty = pure { target := .fn (.func gn) cap, args := first ++ c.args.map (ev f) } := by
      unfold resolve; rw [hc]; simp only [hv, Deferred.ofValue]; try simp
    have ha : first ++ c.args.map (ev f) ++ cap = (first.toList ++ c.args.toList.map (ev f) ++ cap.toList).toArray := by
      apply Array.ext'; simp
    have hrun : (execOp (ev f) ⟨dst, .call c, ty, pos, after, g⟩).run P w = (callFunc gn (first.toList ++ c.args.toList.map (ev f) ++ cap.toList).toArray).run P w := by
      rw [he, hd]
      simp only [Sem.run_bind, Sem.run_pure, Result.andThen_ok, invoke]
      rw [ha]
    rcases hcs.h with ⟨h1, h2⟩ | ⟨v', w', h1, h2⟩
    · exact .inr (.inr (.inl ⟨gn, _, hrun.trans h1, h2⟩))
    · exact .inl ⟨v', w', hrun.trans h1, h2⟩
  · rename_i l first cap
    split at h
    · rename_i hfirst
      have hfirst : first = #[] := by apply Array.ext'; simpa using hfirst
      subst hfirst
      rw [forceL_eq] at h
      split at h
      · rename_i hcap
        have hcap : cap = #[] := by apply Array.ext'; simpa using hcap
        subst hcap
        obtain ⟨fn, tmps, assign, body, h1, h2⟩ := YieldS.h h
        refine .inr (.inr (.inr ⟨l, fn, tmps, assign, body, ?_, h2⟩))
        have he : execOp (ev f) ⟨dst, .call c, ty, pos, after, g⟩ = (do let d ← resolve (ev f) c ty; invoke d.target d.args) := rfl
        have hd : resolve (ev f) c ty = pure { target := .fn (.yield l) #[], args := c.args.map (ev f) } := by
          unfold resolve; rw [hc]; simp only [hv, Deferred.ofValue]; simp
        have ha : c.args.map (ev f) = (c.args.toList.map (ev f)).toArray := by
          apply Array.ext'; simp
        rw [he, hd]
        simp only [Sem.run_bind, Sem.run_pure, Result.andThen_ok, invoke]
        rw [ha]; exact h1
      · exact h.elim
    · exact h.elim
  · exact h.elim
theorem good_field {s fl : Nat} {x : Operand} {b off d : Nat} (hx : ev f x = .pointer (some ⟨b, off, none⟩)) (hd : fieldOff P s fl = some d) (h : K (.pointer (some ⟨b, off + d, none⟩)) w) :
    Good P f w ⟨dst, .fieldAddr s x fl, ty, pos, after, g⟩ K := by
  unfold fieldOff at hd
  split at hd
  · rename_i fs hu
    split at hd
    · rename_i fd hf
      split at hd
      · rename_i i hi
        split at hd
        · rename_i hz
          have hz : i.size ≠ 0 := fun e => by rw [e] at hz; cases hz
          cases hd
          refine good_v (s := Instr.fieldAt s (ev f x) fl) rfl ⟨_, w, ?_, h⟩
          rw [hx]
          simp [Instr.fieldAt, und_ok hu, hf, Instr.sureAddr, fieldPlace, size_ok hi, hz, add_none]
        · cases hd
      · cases hd
    · cases hd
  · cases hd
theorem exec_call {c : Go.Call} : execOp (ev f) ⟨dst, .call c, ty, pos, after, g⟩ = (do let d ← resolve (ev f) c ty; invoke d.target d.args) := rfl
theorem run_builtin {c : Go.Call} {b : Builtin} (hc : c.callee = .builtin b) : (execOp (ev f) ⟨dst, .call c, ty, pos, after, g⟩).run P w =
    (builtin b c.argTypes ty (c.args.map fun | .const _ => true | _ => false) (c.args.toList.map (ev f)).toArray).run P w := by
  have ha : c.args.map (ev f) = (List.map (ev f) c.args.toList).toArray := by apply Array.ext'; simp
  rw [exec_call]
  unfold resolve; rw [hc]
  simp only [Sem.run_bind, Sem.run_pure, Result.andThen_ok, invoke, ha]
  rfl
theorem good_builtin' {c : Go.Call} {b : Builtin} (hc : c.callee = .builtin b) (h : RunN P (builtin b c.argTypes ty (c.args.map fun | .const _ => true | _ => false) (c.args.toList.map (ev f)).toArray) w K) : Good P f w ⟨dst, .call c, ty, pos, after, g⟩ K := by
  obtain ⟨v, w', hr, hk⟩ := h.h
  exact .inl ⟨v, w', by rw [run_builtin hc]; exact hr, hk⟩
theorem good_builtin {c : Go.Call} (hc : c.callee = .builtin .len) (h : RunN P (builtin .len c.argTypes ty #[false] (c.args.toList.map (ev f)).toArray) w K) : Good P f w ⟨dst, .call c, ty, pos, after, g⟩ K := by
  obtain ⟨v, w', hr, hk⟩ := h.h
  exact .inl ⟨v, w', by rw [run_builtin hc]; exact hr, hk⟩
theorem good_len_str {c : Go.Call} {t : TypeId} {s : ByteArray} (hc : c.callee = .builtin .len) (ht : c.argTypes.toList = [t]) (hu : P.underlying t = some .string) (hs : c.args.toList.map (ev f) = [.string s]) (h : K (.int .i64 s.size) w) :
    Good P f w ⟨dst, .call c, ty, pos, after, g⟩ K := by
  have ht : c.argTypes = #[t] := by apply Array.ext'; simpa using ht
  refine .inl ⟨_, w, ?_, h⟩
  rw [run_builtin hc, hs, ht]
  simp [builtin, Builtin.len_, und_ok hu, goInt]
theorem good_len_slice {c : Go.Call} {t : TypeId} {a : Option Addr} {n cp : Nat} (hc : c.callee = .builtin .len) (ht : c.argTypes.toList = [t]) (hu : isSlice P t = true) (hs : c.args.toList.map (ev f) = [.slice a n cp]) (h : K (.int .i64 n) w) :
    Good P f w ⟨dst, .call c, ty, pos, after, g⟩ K := by
  have ht : c.argTypes = #[t] := by apply Array.ext'; simpa using ht
  unfold isSlice at hu
  split at hu
  · rename_i e he
    refine .inl ⟨_, w, ?_, h⟩
    rw [run_builtin hc, hs, ht]
    simp [builtin, Builtin.len_, und_ok he, goInt]
  · cases hu
theorem good_min {c : Go.Call} {k k' : IntKind} {a b : Int} (hc : c.callee = .builtin .min) (hs : c.args.toList.map (ev f) = [.int k a, .int k' b]) (h : K (.int k (min a b)) w) : Good P f w ⟨dst, .call c, ty, pos, after, g⟩ K := by
  refine .inl ⟨_, w, ?_, h⟩
  rw [run_builtin hc, hs]
  simp [builtin, Builtin.min_, Builtin.min2]
  omega
theorem good_max {c : Go.Call} {k k' : IntKind} {a b : Int} (hc : c.callee = .builtin .max) (hs : c.args.toList.map (ev f) = [.int k a, .int k' b]) (h : K (.int k (max a b)) w) : Good P f w ⟨dst, .call c, ty, pos, after, g⟩ K := by
  refine .inl ⟨_, w, ?_, h⟩
  rw [run_builtin hc, hs]
  simp [builtin, Builtin.max_, Builtin.max2]
  omega
end

set_option maxHeartbeats 2000000 in
theorem vc_good {o : Oper} (h : (opRes P f w o).holds P K) : Good P f w o K := by
  obtain ⟨dst, op, ty, pos, after, g⟩ := o
  cases op with
  | load t a =>
    simp only [opRes] at h
    split at h
    · rename_i he; exact good_load he h
    · exact h.elim
  | store t a x =>
    simp only [opRes] at h
    split at h
    · rename_i he; rw [force_eq] at h; exact good_store he h
    · exact h.elim
  | box e x =>
    simp only [opRes, force_eq] at h
    refine good_box ?_
    split at h
    · rename_i he; rw [he]; exact h
    · rename_i hn
      have : (ev f x).cells = #[ev f x] := by
        cases hv : ev f x <;> first | rfl | exact (hn _ hv).elim
      rw [this]; exact h
  | alloc e =>
    simp only [opRes] at h
    split at h
    · rename_i i hi
      split at h
      · rename_i cs hz; exact good_alloc hi hz h
      · rename_i z hn hz
        rw [force_eq] at h
        refine good_alloc hi hz ?_
        have : z.cells = #[z] := by
          cases z <;> first | rfl | exact (hn _ rfl).elim
        rw [this]; exact h
      · exact h.elim
    · exact h.elim
  | makeFunc fn a b =>
    simp only [opRes, forceL_eq] at h
    refine good_v (s := Instr.makeFunc fn (a.map (ev f)) (b.map (ev f))) rfl ⟨_, w, rfl, ?_⟩
    have ha : a.map (ev f) = (a.toList.map (ev f)).toArray := by apply Array.ext'; simp
    have hb : b.map (ev f) = (b.toList.map (ev f)).toArray := by apply Array.ext'; simp
    rw [ha, hb]; exact h
  | binOp b t x y yt =>
    cases b
    case add =>
      simp only [opRes] at h
      split at h
      · rename_i hx hy; exact good_num hx hy (fun _ => rfl) h
      · rename_i hx hy; exact good_num hx hy (fun _ => rfl) h
      · rename_i hx hy; exact good_num hx hy (fun _ => rfl) h
      · rename_i hx hy
        refine good_v (s := do eqGuard .add t x y (ev f x) (ev f y); binOp .add t (ev f x) (ev f y)) rfl ?_
        obtain ⟨v, w', h1, h2⟩ := RunV.h h
        refine ⟨v, w', ?_, h2⟩
        rw [hx, hy]; exact h1
      · exact good_gen h
    case sub =>
      simp only [opRes] at h
      split at h
      · rename_i hx hy; exact good_num hx hy (fun _ => rfl) h
      · rename_i hx hy; exact good_num hx hy (fun _ => rfl) h
      · rename_i hx hy; exact good_num hx hy (fun _ => rfl) h
      · exact good_gen h
    case mul =>
      simp only [opRes] at h
      split at h
      · rename_i hx hy; exact good_num hx hy (fun _ => rfl) h
      · rename_i hx hy; exact good_num hx hy (fun _ => rfl) h
      · exact good_gen h
    case eql =>
      simp only [opRes] at h
      split at h
      · rename_i a c hx hy
        refine good_v (s := do eqGuard .eql t x y (ev f x) (ev f y); binOp .eql t (ev f x) (ev f y)) rfl ⟨_, _, ?_, h⟩
        rw [hx, hy, ← toList_beq]; rfl
      · rename_i hx hy
        refine good_v (s := do eqGuard .eql t x y (ev f x) (ev f y); binOp .eql t (ev f x) (ev f y)) rfl ?_
        obtain ⟨v, w', h1, h2⟩ := RunV.h h
        refine ⟨v, w', ?_, h2⟩
        rw [hx, hy]; exact h1
      · exact good_gen h
    case neq =>
      simp only [opRes] at h
      split at h
      · rename_i a c hx hy
        refine good_v (s := do eqGuard .neq t x y (ev f x) (ev f y); binOp .neq t (ev f x) (ev f y)) rfl ⟨_, _, ?_, h⟩
        rw [hx, hy, ← toList_beq]; rfl
      · rename_i hx hy
        refine good_v (s := do eqGuard .neq t x y (ev f x) (ev f y); binOp .neq t (ev f x) (ev f y)) rfl ?_
        obtain ⟨v, w', h1, h2⟩ := RunV.h h
        refine ⟨v, w', ?_, h2⟩
        rw [hx, hy]; exact h1
      · exact good_gen h
    all_goals exact good_gen h
  | fieldAddr s x fl =>
    simp only [opRes] at h
    split at h
    · rename_i hx
      split at h
      · rename_i d hd
        rw [forceN_eq] at h
        refine good_field hx hd ?_
        split at h
        · rename_i h0; rw [Nat.eq_of_beq_eq_true h0]; exact h
        · exact h
      · exact good_gen h
    · exact good_gen h
  | indexAddr t x i =>
    simp only [opRes] at h
    split at h
    · rename_i hx hi
      split at h
      · rename_i h1 h2
        rw [forceN_eq] at h
        refine good_indexSlice hx hi h1 h2 ?_
        split at h
        · rename_i hb; rw [Nat.eq_of_beq_eq_true hb]; simp only [Nat.mul_one]; exact h
        · exact h
      · exact h.elim
    · rename_i hx hi
      split at h
      · rename_i h1 h2
        simp only [forceN_eq] at h
        refine good_indexArr hx hi h1 h2 ?_
        split at h
        · rename_i hb; rw [Nat.eq_of_beq_eq_true hb]; simp only [Nat.mul_one]; exact h
        · exact h
      · exact h.elim
    · exact h.elim
  | index t x i =>
    simp only [opRes] at h
    split at h
    · rename_i hx hi
      split at h
      · rename_i h1; exact good_indexStr hx hi h1 h
      · exact h.elim
    · exact good_v (s := Instr.index t (ev f x) (ev f i)) rfl (RunV.h h)
  | slice t x lo hi mx =>
    cases mx with
    | some m =>
      simp only [opRes, force_eq, forceO_eq] at h
      exact good_v (s := Instr.sliceAt t (ev f x) (lo.map (ev f)) (hi.map (ev f)) ((some m : Option Operand).map (ev f))) rfl (RunV.h h)
    | none =>
      simp only [opRes] at h
      split at h
      · rename_i hx
        split at h
        · rename_i h1; exact good_cutStr hx h1 h
        · exact h.elim
      · rename_i hx
        split at h
        · rename_i h1 h2; simp only [forceN_eq] at h; exact good_cutSlice hx h1 h2 h
        · exact h.elim
      · rename_i hx1 hx2; exact good_v (s := Instr.sliceAt t (ev f x) (lo.map (ev f)) (hi.map (ev f)) ((none : Option Operand).map (ev f))) rfl (RunV.h h)
  | pick c a b =>
    simp only [opRes, force_eq] at h
    split at h
    · rename_i t ht
      have h : Br t (K (ev f a) w) (K (ev f b) w) := h
      refine .inl ⟨if t then ev f a else ev f b, w, ?_, ?_⟩
      · show (do pure (Next.value (if ← asBool (ev f c) then ev f a else ev f b)) : Sem Next).run P w = _
        rw [ht]; simp [asBool]
      · cases t
        · exact h.f rfl
        · exact h.t rfl
    · exact h.elim
  | build t ps =>
    simp only [opRes, forceP_eq] at h
    have e : (ps.toList.map fun p => (p.1, ev f p.2)).toArray = ps.map fun (i, x) => (i, ev f x) := by apply Array.ext'; simp
    rw [e] at h
    have h : RunV P (Instr.build t (ps.map fun (i, x) => (i, ev f x))) w K := h
    exact good_v (s := Instr.build t (ps.map fun (i, x) => (i, ev f x))) rfl h.h
  | call c =>
    simp only [opRes] at h
    split at h
    · rename_i hc
      split at h
      · rename_i t ht
        split at h
        · rename_i h1
          rw [forceL_eq] at h
          split at h
          · rename_i s hs; exact good_len_str hc ht (isStr_ok (by assumption)) hs h
          · exact h.elim
        · rename_i h1 h2
          rw [forceL_eq] at h
          split at h
          · rename_i a n cp hs; exact good_len_slice hc ht (by assumption) hs h
          · exact h.elim
        · rw [forceL_eq] at h; exact good_builtin hc h
      · exact h.elim
    · rename_i hc
      rw [forceL_eq] at h
      split at h
      · rename_i hs; exact good_min hc hs h
      · exact h.elim
    · rename_i hc
      rw [forceL_eq] at h
      split at h
      · rename_i hs; exact good_max hc hs h
      · exact h.elim
    · rename_i b h1 h2 h3 hc
      rw [forceL_eq] at h
      exact good_builtin' hc h
    · rename_i fo hc; exact good_call hc rfl h
    · exact h.elim
  | next it s => exact good_v (s := Instr.next (ev f it) s ty) rfl (RunV.h h)
  | range t x => exact good_v (s := Instr.range t (ev f x)) rfl (RunV.h h)
  | entry it => exact good_v (s := Instr.entry (ev f it)) rfl (RunV.h h)
  | makeSlice t l c => simp only [opRes, force_eq] at h; exact good_v (s := Instr.makeSlice t (ev f l) (ev f c)) rfl (RunV.h h)
  | buildSlice t n ps =>
    simp only [opRes, forceP_eq] at h
    have e : (ps.toList.map fun p => (p.1, ev f p.2)).toArray = ps.map fun (i, x) => (i, ev f x) := by apply Array.ext'; simp
    rw [e] at h
    have h : RunV P (Instr.buildSlice t n (ps.map fun (i, x) => (i, ev f x))) w K := h
    exact good_v (s := Instr.buildSlice t n (ps.map fun (i, x) => (i, ev f x))) rfl h.h
  | makeMap t r => exact good_v (s := Instr.makeMap t (r.map (ev f))) rfl (RunV.h h)
  | lookup t x i ok => simp only [opRes, force_eq] at h; exact good_v (s := Instr.lookup t (ev f x) (ev f i) ok) rfl (RunV.h h)
  | mapUpdate t m k x => simp only [opRes, force_eq] at h; exact good_u (s := Instr.mapUpdate t (ev f m) (ev f k) (ev f x)) rfl (RunU.h h)
  | insert t m k x => simp only [opRes, force_eq] at h; exact good_u (s := Instr.mapUpdate t (ev f m) (ev f k) (ev f x)) rfl (RunU.h h)
  | mapEntry t m k => simp only [opRes, force_eq] at h; exact good_v (s := Instr.mapEntry t (ev f m) (ev f k)) rfl (RunV.h h)
  | entryStore t m s x => simp only [opRes, force_eq] at h; exact good_u (s := Instr.entryStore t (ev f m) (ev f s) (ev f x)) rfl (RunU.h h)
  | convert s d x =>
    simp only [opRes] at h
    split at h
    · exact good_gen h
    · exact good_v (s := convert s d (ev f x)) rfl (RunV.h h)
  | _ => exact good_gen h
end Go.Vc

namespace Go.Pw
set_option linter.unusedVariables false
open Go
set_option linter.unusedVariables false

/-- From w to w' nothing that was there has turned, but for the blocks of c. -/
structure Keeps (w w' : World) (c : Nat → Prop) : Prop where
  os : w'.os = w.os
  tape : w'.tape = w.tape
  output : w'.output = w.output
  size : w.heap.size ≤ w'.heap.size
  block : ∀ k, k < w.heap.size → ¬ c k → w'.heap[k]? = w.heap[k]?
def none_ : Nat → Prop := fun _ => False
def one_ (b : Nat) : Nat → Prop := fun k => k = b
theorem Keeps.refl (w : World) (c : Nat → Prop) : Keeps w w c := ⟨rfl, rfl, rfl, Nat.le_refl _, fun _ _ _ => rfl⟩
theorem Keeps.trans {a b d : World} {c c' : Nat → Prop} (h : Keeps a b c) (k : Keeps b d c') (hc : ∀ i, i < a.heap.size → c' i → c i) : Keeps a d c :=
  ⟨k.os.trans h.os, k.tape.trans h.tape, k.output.trans h.output, Nat.le_trans h.size k.size, fun i hi hn =>
    (k.block i (Nat.lt_of_lt_of_le hi h.size) (fun h' => hn (hc i hi h'))).trans (h.block i hi hn)⟩
theorem Keeps.trans' {a b d : World} {c : Nat → Prop} (h : Keeps a b c) (k : Keeps b d c) : Keeps a d c := h.trans k fun _ _ h => h
theorem Keeps.trans0 {a b d : World} {c : Nat → Prop} (h : Keeps a b c) (k : Keeps b d none_) : Keeps a d c := h.trans k fun _ _ h => h.elim
theorem Keeps.mono {a b : World} {c c' : Nat → Prop} (h : Keeps a b c) (hc : ∀ i, i < a.heap.size → c i → c' i) : Keeps a b c' :=
  ⟨h.os, h.tape, h.output, h.size, fun i hi hn => h.block i hi fun h' => hn (hc i hi h')⟩
theorem Keeps.of_none {a b : World} {c : Nat → Prop} (h : Keeps a b none_) : Keeps a b c := h.mono fun _ _ h => h.elim
theorem Keeps.drew {a w : World} {c : Nat → Prop} (h : Keeps a w c) : Keeps a w.drew c := ⟨h.os, h.tape, h.output, h.size, h.block⟩
theorem Keeps.drewN {a w : World} {c : Nat → Prop} (h : Keeps a w c) (n : Nat) : Keeps a (w.drewN n) c := ⟨h.os, h.tape, h.output, h.size, h.block⟩
theorem Keeps.alloc {a w : World} {c : Nat → Prop} (h : Keeps a w c) (o : Obj) : Keeps a (w.alloc o) c :=
  ⟨h.os, h.tape, h.output, by have := h.size; simp; omega, fun k hk hn => by
    rw [← h.block k hk hn]; exact RowKit.Below.heap_alloc _ _ _ (Nat.lt_of_lt_of_le hk h.size)⟩
theorem Keeps.setCell {a w : World} {c : Nat → Prop} (h : Keeps a w c) {p : Addr} (hp : c p.block ∨ a.heap.size ≤ p.block) (v : Value) : Keeps a (w.setCell p v) c :=
  ⟨h.os, h.tape, h.output, by have := h.size; simp; omega, fun k hk hn => by
    rw [← h.block k hk hn]
    exact RowKit.Below.heap_setCell _ _ _ _ (fun e => by rcases hp with hp | hp; exact hn (e ▸ hp); omega)⟩
theorem Keeps.below {w w' : World} (h : Keeps w w' none_) : RowKit.Below w.heap.size w w' := ⟨h.os, h.tape, h.output, h.size, fun k hk => h.block k hk id⟩
theorem Keeps.cell {w w' : World} {c : Nat → Prop} (h : Keeps w w' c) {p : Addr} (hp : p.block < w.heap.size) (hc : ¬ c p.block) : w'.cell? p = w.cell? p := World.cell?_of_block (w := w) (h.block _ hp hc)
theorem Keeps.frozen {w w' : World} {c : Nat → Prop} (h : Keeps w w' c) {p : Addr} (hp : p.block < w.heap.size) (hc : ¬ c p.block) : w'.frozen? p = w.frozen? p := World.frozen?_of_block (w := w) (h.block _ hp hc)
theorem Keeps.shape {w w' : World} {c : Nat → Prop} (h : Keeps w w' c) {b : Nat} (hp : b < w.heap.size) (hc : ¬ c b) : w'.shape? b = w.shape? b := by
  unfold World.shape?; rw [h.block _ hp hc]

theorem shape_lt {w : World} {b : Nat} {x : TypeId × Nat} (h : w.shape? b = some x) : b < w.heap.size := by
  unfold World.shape? at h
  by_cases hb : b < w.heap.size
  · exact hb
  · rw [Array.getElem?_eq_none (by omega)] at h; cases h
theorem cell_lt {w : World} {p : Addr} {v : Value} (h : w.cell? p = some v) : p.block < w.heap.size := by
    unfold World.cell? at h
    by_cases hb : p.block < w.heap.size
    · exact hb
    · rw [Array.getElem?_eq_none (by omega)] at h; cases h
theorem cell_set_eq {w : World} {p : Addr} {u v : Value} (h : w.cell? p = some v) : (w.setCell p u).cell? p = some u := World.cell?_setCell_same w p u h
/-- A slice of int that reads as zs (nil, or a row of a block of ints). T: the type's number of the block's elements. -/
def Ints (T : TypeId) (w : World) (v : Value) (zs : List Int) : Prop :=
  (v = .slice none 0 0 ∧ zs = []) ∨
  ∃ kb ko cap n, v = .slice (some ⟨kb, ko, none⟩) zs.length cap ∧ w.shape? kb = some (T, n) ∧ zs.length ≤ 9223372036854775807 ∧
    ∀ i, i < zs.length → w.cell? ⟨kb, ko + i, none⟩ = some (.int .i64 (zs.getD i 0))
theorem Ints.keep {T : TypeId} {w w' : World} {c : Nat → Prop} {v : Value} {zs : List Int} (h : Ints T w v zs) (k : Keeps w w' c) (hc : ∀ b n, w.shape? b = some (T, n) → ¬ c b) : Ints T w' v zs := by
  rcases h with h | ⟨kb, ko, cap, n, rfl, hs, hl, hcell⟩
  · exact .inl h
  · exact .inr ⟨kb, ko, cap, n, rfl, by rw [k.shape (shape_lt hs) (hc _ _ hs)]; exact hs, hl, fun i hi => by rw [k.cell (shape_lt hs) (hc _ _ hs)]; exact hcell i hi⟩
end Go.Pw
