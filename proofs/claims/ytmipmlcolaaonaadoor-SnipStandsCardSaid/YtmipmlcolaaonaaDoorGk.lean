/- Helper text of this claim: Kit1, Kit2, Kit3: lemmas and contracts that the proved statement rests on; no conditions of its own. -/
import Derived.WalkKit
import Derived.Deep.QuietTactic
/-! Regions that draw their order: one walk in the order of the text serves every order, where a static check says that what is not ordered commutes. -/
namespace Go.Pw
open Go
set_option linter.unusedVariables false

/-- A run that, if it goes through, leaves the world alone and goes through alike in every world. -/
def CalmAt {α : Type} (P : Program) (e : Sem α) : Prop :=
  ∀ w n w', e.run P w = .ok n w' → w' = w ∧ ∀ w2, e.run P w2 = .ok n w2
def Never {α : Type} (P : Program) (e : Sem α) : Prop := ∀ w n w', e.run P w ≠ .ok n w'

theorem CalmAt.never {α : Type} {P : Program} {e : Sem α} (h : Never P e) : CalmAt P e := fun w n w' hr => absurd hr (h w n w')
theorem calm_pure {α : Type} (P : Program) (a : α) : CalmAt P (Pure.pure a : Sem α) := fun w n w' h => by
  simp only [Sem.run_pure, Result.ok.injEq] at h
  obtain ⟨rfl, rfl⟩ := h
  exact ⟨rfl, fun _ => rfl⟩
theorem calm_halt {α : Type} (P : Program) (h : Halt) : CalmAt P (Sem.halt h : Sem α) := fun w n w' hr => by simp at hr
theorem calm_stuck {α : Type} (P : Program) (s : String) : CalmAt P (stuck s : Sem α) := calm_halt P _
theorem calm_unsupported {α : Type} (P : Program) (s : Unsupported) : CalmAt P (unsupported s : Sem α) := calm_halt P _
theorem calm_program (P : Program) : CalmAt P program := fun w n w' h => by
  simp only [run_program, Result.ok.injEq] at h
  obtain ⟨rfl, rfl⟩ := h
  exact ⟨rfl, fun _ => rfl⟩
theorem run_bind_ok {α β : Type} {P : Program} {e : Sem α} {f : α → Sem β} {w w' : World} {b : β} (h : (e >>= f).run P w = .ok b w') :
    ∃ a w1, e.run P w = .ok a w1 ∧ (f a).run P w1 = .ok b w' := by
  rw [Sem.run_bind] at h
  cases he : e.run P w with
  | ok a w1 => rw [he] at h; exact ⟨a, w1, rfl, h⟩
  | halt x w1 => rw [he] at h; simp at h
theorem calm_bind {α β : Type} {P : Program} {e : Sem α} {f : α → Sem β} (he : CalmAt P e) (hf : ∀ a, CalmAt P (f a)) : CalmAt P (e >>= f) := fun w n w' h => by
  obtain ⟨a, w1, h1, h2⟩ := run_bind_ok h
  obtain ⟨rfl, k1⟩ := he _ _ _ h1
  obtain ⟨rfl, k2⟩ := hf a _ _ _ h2
  exact ⟨rfl, fun w2 => by rw [Sem.run_bind, k1 w2]; exact k2 w2⟩
theorem never_bind_l {α β : Type} {P : Program} {e : Sem α} {f : α → Sem β} (he : Never P e) : Never P (e >>= f) := fun w n w' h => by
  obtain ⟨a, w1, h1, _⟩ := run_bind_ok h; exact he _ _ _ h1
theorem never_bind_r {α β : Type} {P : Program} {e : Sem α} {f : α → Sem β} (hf : ∀ a, Never P (f a)) : Never P (e >>= f) := fun w n w' h => by
  obtain ⟨a, w1, _, h2⟩ := run_bind_ok h; exact hf _ _ _ _ h2
theorem never_halt {α : Type} (P : Program) (h : Halt) : Never P (Sem.halt h : Sem α) := fun w n w' hr => by simp at hr
theorem never_runtimePanic {α : Type} (P : Program) (e : RuntimeError) : Never P (runtimePanic e : Sem α) := by
  unfold runtimePanic
  refine never_bind_r fun p => ?_
  cases e <;> first
    | exact never_halt P _
    | exact never_bind_r fun _ => never_bind_r fun _ => never_halt P _
theorem never_boundsPanic {α : Type} (P : Program) (k : IntKind) (x y : Int) (c : BoundsCode) : Never P (boundsPanic k x y c : Sem α) := by
  unfold boundsPanic
  dsimp only
  split
  · exact never_bind_r fun _ => never_runtimePanic P _
  · exact never_bind_r fun _ => never_runtimePanic P _
theorem calm_map {α β : Type} {P : Program} {e : Sem α} {f : α → β} (he : CalmAt P e) : CalmAt P (f <$> e) := fun w n w' h => by
  simp only [Sem.run_map] at h
  cases h1 : e.run P w with
  | ok a w1 =>
    rw [h1] at h
    simp only [Result.andThen_ok, Result.ok.injEq] at h
    obtain ⟨rfl, rfl⟩ := h
    obtain ⟨rfl, k⟩ := he _ _ _ h1
    exact ⟨rfl, fun w2 => by simp [k w2]⟩
  | halt x w1 => rw [h1] at h; simp at h
theorem calm_typeInfo (P : Program) (t : TypeId) : CalmAt P (typeInfo t) := by
  unfold typeInfo; refine calm_bind (calm_program P) fun p => ?_; split
  · exact calm_pure P _
  · exact calm_stuck P _
theorem calm_underlying (P : Program) (t : TypeId) : CalmAt P (underlying t) := by
  unfold underlying; refine calm_bind (calm_program P) fun p => ?_; split
  · exact calm_pure P _
  · exact calm_stuck P _
theorem calm_sizeOf (P : Program) (t : TypeId) : CalmAt P (sizeOf t) := by
  unfold sizeOf; exact calm_bind (calm_typeInfo P t) fun _ => calm_pure P _
theorem calm_isAgg (P : Program) (t : TypeId) : CalmAt P (isAgg t) := by
  unfold isAgg; refine calm_bind (calm_underlying P t) fun d => ?_; split <;> exact calm_pure P _
theorem calm_part (P : Program) (t : TypeId) (cs : Array Value) (off : Nat) : CalmAt P (part t cs off) := by
  unfold part
  refine calm_bind (calm_isAgg P t) fun b => ?_
  split
  · exact calm_bind (calm_sizeOf P t) fun _ => calm_pure P _
  · split
    · exact calm_pure P _
    · exact calm_stuck P _
theorem calm_asIntOf (P : Program) (v : Value) : CalmAt P (asIntOf v) := by
  unfold asIntOf; split
  · exact calm_pure P _
  · exact calm_unsupported P _
  · exact calm_stuck P _
theorem calm_asBool (P : Program) (v : Value) : CalmAt P (asBool v) := by
  unfold asBool; split
  · exact calm_pure P _
  · exact calm_stuck P _
theorem calm_asAgg (P : Program) (v : Value) : CalmAt P (asAgg v) := by
  unfold asAgg; split
  · exact calm_pure P _
  · exact calm_stuck P _
theorem calm_sureAddr (P : Program) (v : Value) : CalmAt P (Instr.sureAddr v) := by
  unfold Instr.sureAddr; split
  · exact calm_pure P _
  · exact calm_stuck P _
theorem calm_asAddr (P : Program) (v : Value) : CalmAt P (asAddr v) := by
  unfold asAddr; split
  · exact calm_pure P _
  · exact .never (never_runtimePanic P _)
  · exact calm_stuck P _

/-- The field has cells of its own. -/
def fieldSized (P : Program) (s f : Nat) : Bool :=
  match P.underlying s with
  | some (.struct fields) => (match fields[f]? with | some fd => (match P.info? fd.type with | some i => i.size != 0 | none => false) | none => false)
  | _ => false
theorem underlying_ok {P : Program} {t : TypeId} {d : TypeDesc} {w w' : World} (h : (underlying t).run P w = .ok d w') : P.underlying t = some d := by
  unfold underlying at h
  rw [Sem.run_bind] at h
  simp only [run_program, Result.andThen_ok] at h
  split at h
  · rename_i d' hd; simp only [Sem.run_pure, Result.ok.injEq] at h; rw [hd, h.1]
  · simp at h
theorem sizeOf_ok {P : Program} {t : TypeId} {n : Nat} {w w' : World} (h : (sizeOf t).run P w = .ok n w') : ∃ i, P.info? t = some i ∧ i.size = n := by
  unfold sizeOf at h
  obtain ⟨i, w1, h1, h2⟩ := run_bind_ok h
  simp only [Sem.run_pure, Result.ok.injEq] at h2
  unfold typeInfo at h1
  rw [Sem.run_bind] at h1
  simp only [run_program, Result.andThen_ok] at h1
  split at h1
  · rename_i i' hi; simp only [Sem.run_pure, Result.ok.injEq] at h1; exact ⟨i', hi, by rw [h1.1]; exact h2.1⟩
  · simp at h1
/-- Calm once what has come out before is known. -/
theorem calm_bind' {α β : Type} {P : Program} {e : Sem α} {f : α → Sem β} (he : CalmAt P e) (hf : ∀ a w w', e.run P w = .ok a w' → CalmAt P (f a)) : CalmAt P (e >>= f) := fun w n w' h => by
  obtain ⟨a, w1, h1, h2⟩ := run_bind_ok h
  obtain ⟨rfl, k1⟩ := he _ _ _ h1
  obtain ⟨rfl, k2⟩ := hf a _ _ h1 _ _ _ h2
  exact ⟨rfl, fun w2 => by rw [Sem.run_bind, k1 w2]; exact k2 w2⟩
theorem calm_fieldAt {P : Program} {s : TypeId} {f : Nat} (hz : fieldSized P s f = true) (v : Value) : CalmAt P (Instr.fieldAt s v f) := by
  unfold Instr.fieldAt
  refine calm_bind' (calm_underlying P s) fun d w w' hd => ?_
  have hu := underlying_ok hd
  split
  · rename_i fields
    split
    · rename_i fd hf
      refine calm_bind (calm_sureAddr P v) fun a => ?_
      refine calm_bind ?_ fun _ => calm_pure P _
      unfold fieldPlace
      refine calm_bind' (calm_sizeOf P _) fun n w w' hn => ?_
      obtain ⟨i, hi, hin⟩ := sizeOf_ok hn
      split
      · rename_i h0
        simp [fieldSized, hu, hf, hi, hin, h0] at hz
      · exact calm_pure P _
    · exact calm_stuck P _
  · exact calm_stuck P _
theorem calm_ite {α : Type} {P : Program} {c : Prop} [Decidable c] {x y : Sem α} (hx : CalmAt P x) (hy : CalmAt P y) : CalmAt P (if c then x else y) := by
  split
  · exact hx
  · exact hy
theorem calm_bounds {α : Type} (P : Program) (k : IntKind) (x y : Int) (c : BoundsCode) : CalmAt P (boundsPanic k x y c : Sem α) := .never (never_boundsPanic P k x y c)
theorem calm_rt {α : Type} (P : Program) (e : RuntimeError) : CalmAt P (runtimePanic e : Sem α) := .never (never_runtimePanic P e)
theorem calm_indexAt (P : Program) (t : TypeId) (x ix : Value) : CalmAt P (Instr.indexAt t x ix) := by
  unfold Instr.indexAt
  repeat' (first | with_reducible exact calm_pure P _ | with_reducible exact calm_stuck P _ | with_reducible exact calm_unsupported P _ | with_reducible exact calm_halt P _ | with_reducible exact calm_bounds P _ _ _ _ | with_reducible exact calm_rt P _ | with_reducible exact calm_asIntOf P _ | with_reducible exact calm_asBool P _ | with_reducible exact calm_asAgg P _ | with_reducible exact calm_underlying P _ | with_reducible exact calm_sureAddr P _ | with_reducible exact calm_asAddr P _ | with_reducible exact calm_sizeOf P _ | with_reducible exact calm_part P _ _ _ | with_reducible refine calm_bind ?_ (fun _ => ?_) | with_reducible refine calm_ite ?_ ?_ | split | dsimp only)
theorem calm_index (P : Program) (t : TypeId) (x ix : Value) : CalmAt P (Instr.index t x ix) := by
  unfold Instr.index
  repeat' (first | with_reducible exact calm_pure P _ | with_reducible exact calm_stuck P _ | with_reducible exact calm_unsupported P _ | with_reducible exact calm_halt P _ | with_reducible exact calm_bounds P _ _ _ _ | with_reducible exact calm_rt P _ | with_reducible exact calm_asIntOf P _ | with_reducible exact calm_asBool P _ | with_reducible exact calm_asAgg P _ | with_reducible exact calm_underlying P _ | with_reducible exact calm_sureAddr P _ | with_reducible exact calm_asAddr P _ | with_reducible exact calm_sizeOf P _ | with_reducible exact calm_part P _ _ _ | with_reducible refine calm_bind ?_ (fun _ => ?_) | with_reducible refine calm_ite ?_ ?_ | split | dsimp only)
theorem calm_field (P : Program) (t : TypeId) (x : Value) (f : Nat) : CalmAt P (Instr.field t x f) := by
  unfold Instr.field
  repeat' (first | with_reducible exact calm_pure P _ | with_reducible exact calm_stuck P _ | with_reducible exact calm_unsupported P _ | with_reducible exact calm_halt P _ | with_reducible exact calm_bounds P _ _ _ _ | with_reducible exact calm_rt P _ | with_reducible exact calm_asIntOf P _ | with_reducible exact calm_asBool P _ | with_reducible exact calm_asAgg P _ | with_reducible exact calm_underlying P _ | with_reducible exact calm_sureAddr P _ | with_reducible exact calm_asAddr P _ | with_reducible exact calm_sizeOf P _ | with_reducible exact calm_part P _ _ _ | with_reducible refine calm_bind ?_ (fun _ => ?_) | with_reducible refine calm_ite ?_ ?_ | split | dsimp only)
theorem calm_extract (P : Program) (x : Value) (i : Nat) : CalmAt P (Instr.extract x i) := by
  unfold Instr.extract
  repeat' (first | with_reducible exact calm_pure P _ | with_reducible exact calm_stuck P _ | with_reducible exact calm_unsupported P _ | with_reducible exact calm_halt P _ | with_reducible exact calm_bounds P _ _ _ _ | with_reducible exact calm_rt P _ | with_reducible exact calm_asIntOf P _ | with_reducible exact calm_asBool P _ | with_reducible exact calm_asAgg P _ | with_reducible exact calm_underlying P _ | with_reducible exact calm_sureAddr P _ | with_reducible exact calm_asAddr P _ | with_reducible exact calm_sizeOf P _ | with_reducible exact calm_part P _ _ _ | with_reducible refine calm_bind ?_ (fun _ => ?_) | with_reducible refine calm_ite ?_ ?_ | split | dsimp only)
theorem calm_makeInterface (P : Program) (t : TypeId) (x : Value) : CalmAt P (Instr.makeInterface t x) := by
  unfold Instr.makeInterface
  repeat' (first | with_reducible exact calm_pure P _ | with_reducible exact calm_stuck P _ | with_reducible exact calm_unsupported P _ | with_reducible exact calm_halt P _ | with_reducible exact calm_bounds P _ _ _ _ | with_reducible exact calm_rt P _ | with_reducible exact calm_asIntOf P _ | with_reducible exact calm_asBool P _ | with_reducible exact calm_asAgg P _ | with_reducible exact calm_underlying P _ | with_reducible exact calm_sureAddr P _ | with_reducible exact calm_asAddr P _ | with_reducible exact calm_sizeOf P _ | with_reducible exact calm_part P _ _ _ | with_reducible refine calm_bind ?_ (fun _ => ?_) | with_reducible refine calm_ite ?_ ?_ | split | dsimp only)
theorem calm_sliceBound (P : Program) (x : Value) (y : Nat) (c : BoundsCode) : CalmAt P (Instr.sliceBound x y c) := by
  unfold Instr.sliceBound
  repeat' (first | with_reducible exact calm_pure P _ | with_reducible exact calm_stuck P _ | with_reducible exact calm_unsupported P _ | with_reducible exact calm_halt P _ | with_reducible exact calm_bounds P _ _ _ _ | with_reducible exact calm_rt P _ | with_reducible exact calm_asIntOf P _ | with_reducible exact calm_asBool P _ | with_reducible exact calm_asAgg P _ | with_reducible exact calm_underlying P _ | with_reducible exact calm_sureAddr P _ | with_reducible exact calm_asAddr P _ | with_reducible exact calm_sizeOf P _ | with_reducible exact calm_part P _ _ _ | with_reducible refine calm_bind ?_ (fun _ => ?_) | with_reducible refine calm_ite ?_ ?_ | split | dsimp only)
theorem calm_sliceBounds (P : Program) (b : Bool) (len cap : Nat) (lo hi mx : Option Value) : CalmAt P (Instr.sliceBounds b len cap lo hi mx) := by
  unfold Instr.sliceBounds
  repeat' (first | with_reducible exact calm_pure P _ | with_reducible exact calm_stuck P _ | with_reducible exact calm_unsupported P _ | with_reducible exact calm_halt P _ | with_reducible exact calm_bounds P _ _ _ _ | with_reducible exact calm_rt P _ | with_reducible exact calm_asIntOf P _ | with_reducible exact calm_asBool P _ | with_reducible exact calm_asAgg P _ | with_reducible exact calm_underlying P _ | with_reducible exact calm_sureAddr P _ | with_reducible exact calm_asAddr P _ | with_reducible exact calm_sizeOf P _ | with_reducible exact calm_sliceBound P _ _ _ | with_reducible exact calm_part P _ _ _ | with_reducible refine calm_bind ?_ (fun _ => ?_) | with_reducible refine calm_ite ?_ ?_ | split | dsimp only)
theorem calm_slice (P : Program) (t : TypeId) (x : Value) (lo hi mx : Option Value) : CalmAt P (Instr.slice t x lo hi mx) := by
  unfold Instr.slice
  repeat' (first | with_reducible exact calm_pure P _ | with_reducible exact calm_stuck P _ | with_reducible exact calm_unsupported P _ | with_reducible exact calm_halt P _ | with_reducible exact calm_bounds P _ _ _ _ | with_reducible exact calm_rt P _ | with_reducible exact calm_asIntOf P _ | with_reducible exact calm_asBool P _ | with_reducible exact calm_asAgg P _ | with_reducible exact calm_underlying P _ | with_reducible exact calm_sureAddr P _ | with_reducible exact calm_asAddr P _ | with_reducible exact calm_sizeOf P _ | with_reducible exact calm_sliceBounds P _ _ _ _ _ _ | with_reducible exact calm_part P _ _ _ | with_reducible refine calm_bind ?_ (fun _ => ?_) | with_reducible refine calm_ite ?_ ?_ | split | dsimp only)
theorem calm_sliceAt (P : Program) (t : TypeId) (x : Value) (lo hi mx : Option Value) : CalmAt P (Instr.sliceAt t x lo hi mx) := by
  unfold Instr.sliceAt
  repeat' (first | with_reducible exact calm_pure P _ | with_reducible exact calm_stuck P _ | with_reducible exact calm_unsupported P _ | with_reducible exact calm_halt P _ | with_reducible exact calm_bounds P _ _ _ _ | with_reducible exact calm_rt P _ | with_reducible exact calm_asIntOf P _ | with_reducible exact calm_asBool P _ | with_reducible exact calm_asAgg P _ | with_reducible exact calm_underlying P _ | with_reducible exact calm_sureAddr P _ | with_reducible exact calm_asAddr P _ | with_reducible exact calm_sizeOf P _ | with_reducible exact calm_sliceBounds P _ _ _ _ _ _ | with_reducible exact calm_slice P _ _ _ _ _ | with_reducible exact calm_part P _ _ _ | with_reducible refine calm_bind ?_ (fun _ => ?_) | with_reducible refine calm_ite ?_ ?_ | split | dsimp only)
theorem calm_stringOp (P : Program) (op : BinOp) (a b : ByteArray) : CalmAt P (Op.stringOp op a b) := by
  unfold Op.stringOp
  repeat' (first | with_reducible exact calm_pure P _ | with_reducible exact calm_stuck P _ | with_reducible exact calm_unsupported P _ | with_reducible exact calm_halt P _ | with_reducible exact calm_bounds P _ _ _ _ | with_reducible exact calm_rt P _ | with_reducible exact calm_asIntOf P _ | with_reducible exact calm_asBool P _ | with_reducible exact calm_asAgg P _ | with_reducible exact calm_underlying P _ | with_reducible exact calm_sureAddr P _ | with_reducible exact calm_asAddr P _ | with_reducible exact calm_sizeOf P _ | with_reducible exact calm_part P _ _ _ | with_reducible refine calm_bind ?_ (fun _ => ?_) | with_reducible refine calm_ite ?_ ?_ | split | dsimp only)
theorem calm_intArith (P : Program) (op : BinOp) (k : IntKind) (a b : Int) : CalmAt P (Op.intArith op k a b) := by
  unfold Op.intArith
  repeat' (first | with_reducible exact calm_pure P _ | with_reducible exact calm_stuck P _ | with_reducible exact calm_unsupported P _ | with_reducible exact calm_halt P _ | with_reducible exact calm_bounds P _ _ _ _ | with_reducible exact calm_rt P _ | with_reducible exact calm_asIntOf P _ | with_reducible exact calm_asBool P _ | with_reducible exact calm_asAgg P _ | with_reducible exact calm_underlying P _ | with_reducible exact calm_sureAddr P _ | with_reducible exact calm_asAddr P _ | with_reducible exact calm_sizeOf P _ | with_reducible exact calm_part P _ _ _ | with_reducible refine calm_bind ?_ (fun _ => ?_) | with_reducible refine calm_ite ?_ ?_ | split | dsimp only)
theorem calm_intBits (P : Program) (op : BinOp) (k : IntKind) (a b : Int) : CalmAt P (Op.intBits op k a b) := by
  unfold Op.intBits
  repeat' (first | with_reducible exact calm_pure P _ | with_reducible exact calm_stuck P _ | with_reducible exact calm_unsupported P _ | with_reducible exact calm_halt P _ | with_reducible exact calm_bounds P _ _ _ _ | with_reducible exact calm_rt P _ | with_reducible exact calm_asIntOf P _ | with_reducible exact calm_asBool P _ | with_reducible exact calm_asAgg P _ | with_reducible exact calm_underlying P _ | with_reducible exact calm_sureAddr P _ | with_reducible exact calm_asAddr P _ | with_reducible exact calm_sizeOf P _ | with_reducible exact calm_part P _ _ _ | with_reducible refine calm_bind ?_ (fun _ => ?_) | with_reducible refine calm_ite ?_ ?_ | split | dsimp only)
theorem calm_shift (P : Program) (op : BinOp) (k k' : IntKind) (a b : Int) : CalmAt P (Op.shift op k a k' b) := by
  unfold Op.shift
  repeat' (first | with_reducible exact calm_pure P _ | with_reducible exact calm_stuck P _ | with_reducible exact calm_unsupported P _ | with_reducible exact calm_halt P _ | with_reducible exact calm_bounds P _ _ _ _ | with_reducible exact calm_rt P _ | with_reducible exact calm_asIntOf P _ | with_reducible exact calm_asBool P _ | with_reducible exact calm_asAgg P _ | with_reducible exact calm_underlying P _ | with_reducible exact calm_sureAddr P _ | with_reducible exact calm_asAddr P _ | with_reducible exact calm_sizeOf P _ | with_reducible exact calm_intArith P _ _ _ _ | with_reducible exact calm_intBits P _ _ _ _ | with_reducible exact calm_part P _ _ _ | with_reducible refine calm_bind ?_ (fun _ => ?_) | with_reducible refine calm_ite ?_ ?_ | split | dsimp only)
theorem calm_intDiv (P : Program) (op : BinOp) (k : IntKind) (a b : Int) : CalmAt P (Op.intDiv op k a b) := by
  unfold Op.intDiv
  repeat' (first | with_reducible exact calm_pure P _ | with_reducible exact calm_stuck P _ | with_reducible exact calm_unsupported P _ | with_reducible exact calm_halt P _ | with_reducible exact calm_bounds P _ _ _ _ | with_reducible exact calm_rt P _ | with_reducible exact calm_asIntOf P _ | with_reducible exact calm_asBool P _ | with_reducible exact calm_asAgg P _ | with_reducible exact calm_underlying P _ | with_reducible exact calm_sureAddr P _ | with_reducible exact calm_asAddr P _ | with_reducible exact calm_sizeOf P _ | with_reducible exact calm_intArith P _ _ _ _ | with_reducible exact calm_intBits P _ _ _ _ | with_reducible exact calm_part P _ _ _ | with_reducible refine calm_bind ?_ (fun _ => ?_) | with_reducible refine calm_ite ?_ ?_ | split | dsimp only)
theorem calm_intCmp (P : Program) (op : BinOp) (a b : Int) : CalmAt P (Op.intCmp op a b) := by
  unfold Op.intCmp
  repeat' (first | with_reducible exact calm_pure P _ | with_reducible exact calm_stuck P _ | with_reducible exact calm_unsupported P _ | with_reducible exact calm_halt P _ | with_reducible exact calm_bounds P _ _ _ _ | with_reducible exact calm_rt P _ | with_reducible exact calm_asIntOf P _ | with_reducible exact calm_asBool P _ | with_reducible exact calm_asAgg P _ | with_reducible exact calm_underlying P _ | with_reducible exact calm_sureAddr P _ | with_reducible exact calm_asAddr P _ | with_reducible exact calm_sizeOf P _ | with_reducible exact calm_intArith P _ _ _ _ | with_reducible exact calm_intBits P _ _ _ _ | with_reducible exact calm_part P _ _ _ | with_reducible refine calm_bind ?_ (fun _ => ?_) | with_reducible refine calm_ite ?_ ?_ | split | dsimp only)
theorem calm_binInt (P : Program) (op : BinOp) (t : TypeId) (k k' : IntKind) (a b : Int) : CalmAt P (binOp op t (.int k a) (.int k' b)) := by
  cases op
  case shl => exact (calm_shift P .shl k k' a b : CalmAt P (Op.shift .shl k a k' b))
  case shr => exact (calm_shift P .shr k k' a b : CalmAt P (Op.shift .shr k a k' b))
  case add => exact calm_ite (calm_stuck P _) (calm_intArith P _ _ _ _)
  case sub => exact calm_ite (calm_stuck P _) (calm_intArith P _ _ _ _)
  case mul => exact calm_ite (calm_stuck P _) (calm_intArith P _ _ _ _)
  case quo => exact calm_ite (calm_stuck P _) (calm_intDiv P _ _ _ _)
  case rem => exact calm_ite (calm_stuck P _) (calm_intDiv P _ _ _ _)
  case and => exact calm_ite (calm_stuck P _) (calm_intBits P _ _ _ _)
  case or => exact calm_ite (calm_stuck P _) (calm_intBits P _ _ _ _)
  case xor => exact calm_ite (calm_stuck P _) (calm_intBits P _ _ _ _)
  case andNot => exact calm_ite (calm_stuck P _) (calm_intBits P _ _ _ _)
  all_goals exact calm_ite (calm_stuck P _) (calm_intCmp P _ _ _)
theorem calm_binString (P : Program) (op : BinOp) (t : TypeId) (a b : ByteArray) : CalmAt P (binOp op t (.string a) (.string b)) := by
  have h : binOp op t (.string a) (.string b) = Op.stringOp op a b := by cases op <;> rfl
  rw [h]; exact calm_stringOp P op a b
theorem calm_equalBool (P : Program) (t : TypeId) (a b : Bool) : CalmAt P (Op.equal t (.bool a) (.bool b)) := by
  unfold Op.equal Op.maxDepth
  have h : Op.equalIn 10000 t (.bool a) (.bool b) = (do
      match ← underlying t with
      | .bool => pure (a == b)
      | _ => stuck "==: the operands do not fit the type, or the type is not comparable") := by
    show (underlying t >>= fun d => _) = (underlying t >>= fun d => _)
    congr 1
    funext d
    cases d <;> rfl
  rw [h]
  repeat' (first | with_reducible exact calm_pure P _ | with_reducible exact calm_stuck P _ | with_reducible exact calm_unsupported P _ | with_reducible exact calm_halt P _ | with_reducible exact calm_bounds P _ _ _ _ | with_reducible exact calm_rt P _ | with_reducible exact calm_asIntOf P _ | with_reducible exact calm_asBool P _ | with_reducible exact calm_asAgg P _ | with_reducible exact calm_underlying P _ | with_reducible exact calm_sureAddr P _ | with_reducible exact calm_asAddr P _ | with_reducible exact calm_sizeOf P _ | with_reducible exact calm_intArith P _ _ _ _ | with_reducible exact calm_intBits P _ _ _ _ | with_reducible exact calm_part P _ _ _ | with_reducible refine calm_bind ?_ (fun _ => ?_) | with_reducible refine calm_ite ?_ ?_ | split | dsimp only)
theorem calm_binBool (P : Program) (op : BinOp) (t : TypeId) (a b : Bool) : CalmAt P (binOp op t (.bool a) (.bool b)) := by
  cases op
  case eql => exact calm_bind (calm_equalBool P t a b) fun _ => calm_pure P _
  case neq => exact calm_bind (calm_equalBool P t a b) fun _ => calm_pure P _
  all_goals exact calm_stuck P _
theorem calm_unary (P : Program) (op : UnOp) (x : Value) : CalmAt P (Op.unary op x) := by
  unfold Op.unary
  repeat' (first | with_reducible exact calm_pure P _ | with_reducible exact calm_stuck P _ | with_reducible exact calm_unsupported P _ | with_reducible exact calm_halt P _ | with_reducible exact calm_bounds P _ _ _ _ | with_reducible exact calm_rt P _ | with_reducible exact calm_asIntOf P _ | with_reducible exact calm_asBool P _ | with_reducible exact calm_asAgg P _ | with_reducible exact calm_underlying P _ | with_reducible exact calm_sureAddr P _ | with_reducible exact calm_asAddr P _ | with_reducible exact calm_sizeOf P _ | with_reducible exact calm_intArith P _ _ _ _ | with_reducible exact calm_intBits P _ _ _ _ | with_reducible exact calm_part P _ _ _ | with_reducible refine calm_bind ?_ (fun _ => ?_) | with_reducible refine calm_ite ?_ ?_ | split | dsimp only)
theorem calm_unsafeInt (P : Program) (s d : TypeId) (k : IntKind) (n : Int) : CalmAt P (Conv.unsafePointer s d (.int k n)) := by
  unfold Conv.unsafePointer
  refine calm_bind (calm_underlying P s) fun ds => ?_
  refine calm_bind (calm_underlying P d) fun dd => ?_
  cases ds <;> cases dd <;> first | exact calm_stuck P _ | (dsimp only; split <;> first | contradiction | exact calm_unsupported P _ | exact calm_stuck P _)
theorem calm_convertInt (P : Program) (s d : TypeId) (k : IntKind) (n : Int) : CalmAt P (convert s d (.int k n)) := by
  unfold convert
  refine calm_bind (calm_underlying P s) fun ds => ?_
  refine calm_bind (calm_underlying P d) fun dd => ?_
  cases ds <;> cases dd <;> first | exact calm_pure P _ | exact calm_unsupported P _ | exact calm_stuck P _ | exact calm_unsafeInt P s d k n
theorem calm_len (P : Program) (ats : Array TypeId) (t : TypeId) (x : Value) (hx : (match x with | .string _ | .slice .. => true | _ => false) = true) :
    CalmAt P (Builtin.len_ ats t #[x]) := by
  unfold Builtin.len_
  cases hu : ats[0]? with
  | none => exact calm_stuck P _
  | some u =>
    refine calm_bind (calm_underlying P u) fun d => ?_
    cases x <;> simp only [Bool.false_eq_true] at hx <;> cases d <;> first | exact calm_pure P _ | exact calm_stuck P _ | (refine calm_bind (calm_underlying P _) fun d' => ?_; cases d' <;> first | exact calm_pure P _ | exact calm_stuck P _)
theorem calm_zeroValue (P : Program) (t : TypeId) : CalmAt P (zeroValue t) := by
  unfold zeroValue; refine calm_bind (calm_typeInfo P t) fun i => ?_; split
  · exact calm_pure P _
  · exact calm_unsupported P _
theorem calm_listMapM {α β : Type} {P : Program} (f : α → Sem β) (hf : ∀ a, CalmAt P (f a)) : ∀ (l : List α), CalmAt P (l.mapM f)
  | [] => by rw [List.mapM_nil]; exact calm_pure P _
  | a :: l => by rw [List.mapM_cons]; exact calm_bind (hf a) fun _ => calm_bind (calm_listMapM f hf l) fun _ => calm_pure P _
theorem calm_mapM {α β : Type} {P : Program} (f : α → Sem β) (hf : ∀ a, CalmAt P (f a)) (as : Array α) : CalmAt P (as.mapM f) := by
  rw [Array.mapM_eq_mapM_toList]; exact calm_map (calm_listMapM f hf _)
theorem calm_build (P : Program) (t : TypeId) (parts : Array (Nat × Value)) : CalmAt P (Instr.build t parts) := by
  unfold Instr.build
  refine calm_bind (calm_zeroValue P t) fun z => ?_
  refine calm_bind (calm_underlying P t) fun d => ?_
  split
  · refine calm_bind (calm_mapM _ (fun f => calm_bind (calm_sizeOf P _) fun _ => calm_pure P _) _) fun _ => ?_
    split
    · exact calm_pure P _
    · exact calm_stuck P _
  · refine calm_bind (calm_sizeOf P _) fun _ => ?_
    split
    · exact calm_pure P _
    · exact calm_stuck P _
  · exact calm_stuck P _
theorem calm_min2 (P : Program) (k k' : IntKind) (a b : Int) : CalmAt P (Builtin.min2 (.int k a) (.int k' b)) := calm_pure P _
theorem calm_max2 (P : Program) (k k' : IntKind) (a b : Int) : CalmAt P (Builtin.max2 (.int k a) (.int k' b)) := calm_pure P _
theorem calm_nilCheck (P : Program) (x : Value) (hx : (match x with | .func .. => false | _ => true) = true) : CalmAt P (match x with
    | .pointer none | .nilIface | .nilFunc => runtimePanic .nilDeref
    | x => pure (.value x) : Sem Next) := by
  split
  · exact calm_rt P _
  · exact calm_rt P _
  · exact calm_rt P _
  · exact calm_pure P _

inductive OpKind where
  | pure | read | other
  deriving DecidableEq

/-- What kind of operation it is, by its text: 'pure' needs 'calmOk' of its operands besides. -/
def kindOf (P : Program) (o : Oper) : OpKind :=
  match o.op with
  | .binOp .eql t _ _ _ => (match P.underlying t with | some (.struct _) => .other | _ => .pure)
  | .binOp .neq t _ _ _ => (match P.underlying t with | some (.struct _) => .other | _ => .pure)
  | .move _ | .assign _ | .pick .. | .build .. | .nilCheck _ | .binOp .. | .unOp .. | .slice .. | .field .. | .indexAddr .. | .index .. | .extract .. | .makeInterface .. => .pure
  | .fieldAddr s _ f => if fieldSized P s f then .pure else .other
  | .call { callee := .builtin .len, args, .. } => if args.size = 1 then .pure else .other
  | .call { callee := .builtin .min, args, .. } => if args.size = 2 then .pure else .other
  | .call { callee := .builtin .max, args, .. } => if args.size = 2 then .pure else .other
  | .load .. => .read
  | .convert s _ _ => (match P.underlying s with | some (.int _) => .pure | _ => .other)
  | _ => .other

def calmOk (ρ : Operand → Value) (o : Oper) : Bool :=
  match o.op with
  | .nilCheck x => (match ρ x with | .func .. => false | _ => true)
  | .binOp _ _ x y _ => (match ρ x, ρ y with | .int .., .int .. => true | .string _, .string _ => true | .bool _, .bool _ => true | _, _ => false)
  | .convert _ _ x => (match ρ x with | .int .. => true | _ => false)
  | .call { callee := .builtin .len, args, .. } => (match ρ (args.getD 0 (.const undef)) with | .string _ | .slice .. => true | _ => false)
  | .call { callee := .builtin .min, args, .. } => (match ρ (args.getD 0 (.const undef)), ρ (args.getD 1 (.const undef)) with | .int .., .int .. => true | _, _ => false)
  | .call { callee := .builtin .max, args, .. } => (match ρ (args.getD 0 (.const undef)), ρ (args.getD 1 (.const undef)) with | .int .., .int .. => true | _, _ => false)
  | _ => true

/-- Calm, and what comes out is a value. -/
def CalmV (P : Program) (e : Sem Next) : Prop := ∀ w n w', e.run P w = .ok n w' → ∃ v, n = .value v ∧ w' = w ∧ ∀ w2, e.run P w2 = .ok (.value v) w2
theorem calmV_of {P : Program} {s : Sem Value} (h : CalmAt P s) : CalmV P (do Pure.pure (Next.value (← s))) := fun w n w' hr => by
  obtain ⟨v, w1, h1, h2⟩ := run_bind_ok hr
  obtain ⟨rfl, k⟩ := h _ _ _ h1
  simp only [Sem.run_pure, Result.ok.injEq] at h2
  obtain ⟨rfl, rfl⟩ := h2
  exact ⟨v, rfl, rfl, fun w2 => by rw [Sem.run_bind, k w2]; rfl⟩
theorem calmV_pure (P : Program) (v : Value) : CalmV P (Pure.pure (Next.value v)) := fun w n w' h => by
  simp only [Sem.run_pure, Result.ok.injEq] at h
  obtain ⟨rfl, rfl⟩ := h
  exact ⟨v, rfl, rfl, fun _ => rfl⟩
theorem calmV_never {P : Program} {e : Sem Next} (h : Never P e) : CalmV P e := fun w n w' hr => absurd hr (h w n w')
theorem calm_eqGuard (P : Program) (op : BinOp) (t : TypeId) (x y : Operand) (a b : Value) (h : (match a, b with | .int .., .int .. => true | .string _, .string _ => true | .bool _, .bool _ => true | _, _ => false) = true) :
    CalmAt P (eqGuard op t x y a b) := by
  cases a <;> cases b <;> simp only [Bool.false_eq_true] at h <;> cases op <;> exact calm_pure P _
theorem calm_exec {P : Program} {ρ : Operand → Value} {o : Oper} (hk : kindOf P o = .pure) (hc : calmOk ρ o = true) : CalmV P (execOp ρ o) := by
  obtain ⟨dst, op, type, pos, after, guard⟩ := o
  cases op <;> simp only [kindOf, reduceCtorEq] at hk <;> simp only [calmOk] at hc <;> simp only [execOp]
  case move x => exact calmV_pure P _
  case assign x => exact calmV_pure P _
  case pick c a b =>
    intro w n w' hr
    obtain ⟨v, w1, h1, h2⟩ := run_bind_ok hr
    obtain ⟨rfl, k⟩ := calm_asBool P _ _ _ _ h1
    simp only [Sem.run_pure, Result.ok.injEq] at h2
    obtain ⟨rfl, rfl⟩ := h2
    exact ⟨_, rfl, rfl, fun w2 => by rw [Sem.run_bind, k w2]; rfl⟩
  case nilCheck x =>
    cases hx : ρ x <;> simp only [hx] at hc ⊢ <;> first
      | exact calmV_pure P _
      | exact calmV_never (never_runtimePanic P _)
      | (rename_i q; cases q <;> first | exact calmV_pure P _ | exact calmV_never (never_runtimePanic P _))
      | cases hc
  case binOp op xt x y yt =>
    refine calmV_of (calm_bind (calm_eqGuard P _ _ _ _ _ _ ?_) fun _ => ?_)
    · exact hc
    · cases hx : ρ x <;> cases hy : ρ y <;> simp only [hx, hy, Bool.false_eq_true] at hc
      · exact calm_binBool P _ _ _ _
      · exact calm_binInt P _ _ _ _ _ _
      · exact calm_binString P _ _ _ _
  case unOp op t x => exact calmV_of (calm_unary P _ _)
  case build t ps => exact calmV_of (calm_build P _ _)
  case convert s d x =>
    cases hx : ρ x <;> simp only [hx, Bool.false_eq_true] at hc
    exact calmV_of (calm_convertInt P _ _ _ _)
  case slice t x lo hi mx => exact calmV_of (calm_sliceAt P _ _ _ _ _)
  case fieldAddr s x f =>
    split at hk
    · rename_i h; exact calmV_of (calm_fieldAt h _)
    · cases hk
  case field t x f => exact calmV_of (calm_field P _ _ _)
  case indexAddr t x i => exact calmV_of (calm_indexAt P _ _ _)
  case index t x i => exact calmV_of (calm_index P _ _ _)
  case makeInterface t x => exact calmV_of (calm_makeInterface P _ _)
  case extract t i => exact calmV_of (calm_extract P _ _)
  case call c =>
    obtain ⟨callee, args, ats⟩ := c
    cases callee with
    | value f => cases hk
    | invoke r m => cases hk
    | builtin b =>
      cases b <;> simp only [reduceCtorEq] at hk
      case len =>
        split at hk
        · rename_i hs
          obtain ⟨x, rfl⟩ : ∃ x, args = #[x] := Array.size_eq_one_iff.1 hs
          show CalmV P (do Pure.pure (Next.value (← Builtin.len_ ats type ((#[x] : Array Operand).map ρ))))
          rw [show (#[x] : Array Operand).map ρ = #[ρ x] from by simp]
          exact calmV_of (calm_len P _ _ _ hc)
        · cases hk
      case max =>
        split at hk
        · rename_i hs
          obtain ⟨x, y, rfl⟩ : ∃ x y, args = #[x, y] := by
            obtain ⟨l⟩ := args
            match l, hs with
            | [x, y], _ => exact ⟨x, y, rfl⟩
          simp only [Array.getD_eq_getD_getElem?, List.getElem?_toArray, List.getElem?_cons_zero, List.getElem?_cons_succ, Option.getD_some] at hc
          cases hx : ρ x <;> cases hy : ρ y <;> simp only [hx, hy, Bool.false_eq_true] at hc
          rename_i k1 n1 k2 n2
          show CalmV P (do Pure.pure (Next.value (← Builtin.max_ ats type ((#[x, y] : Array Operand).map ρ))))
          rw [show (#[x, y] : Array Operand).map ρ = #[ρ x, ρ y] from by simp, hx, hy]
          exact calmV_of (calm_pure P _)
        · cases hk
      case min =>
        split at hk
        · rename_i hs
          obtain ⟨x, y, rfl⟩ : ∃ x y, args = #[x, y] := by
            obtain ⟨l⟩ := args
            match l, hs with
            | [x, y], _ => exact ⟨x, y, rfl⟩
          simp only [Array.getD_eq_getD_getElem?, List.getElem?_toArray, List.getElem?_cons_zero, List.getElem?_cons_succ, Option.getD_some] at hc
          cases hx : ρ x <;> cases hy : ρ y <;> simp only [hx, hy, Bool.false_eq_true] at hc
          rename_i k1 n1 k2 n2
          show CalmV P (do Pure.pure (Next.value (← Builtin.min_ ats type ((#[x, y] : Array Operand).map ρ))))
          rw [show (#[x, y] : Array Operand).map ρ = #[ρ x, ρ y] from by simp, hx, hy]
          exact calmV_of (calm_pure P _)
        · cases hk
def Looks {α : Type} (P : Program) (e : Sem α) : Prop := ∀ w n w', e.run P w = .ok n w' → w' = w
theorem looks_load (P : Program) (a : Addr) : Looks P (load a) := fun w n w' h => by
  rw [run_load] at h
  split at h
  · simp only [Result.ok.injEq] at h; exact h.2.symm
  · split at h
    · simp only [Result.ok.injEq] at h; exact h.2.symm
    · simp at h
theorem looks_of {α : Type} {P : Program} {e : Sem α} (h : CalmAt P e) : Looks P e := fun w n w' hr => (h w n w' hr).1
theorem looks_bind {α β : Type} {P : Program} {e : Sem α} {f : α → Sem β} (he : Looks P e) (hf : ∀ a, Looks P (f a)) : Looks P (e >>= f) := fun w n w' h => by
  obtain ⟨a, w1, h1, h2⟩ := run_bind_ok h
  obtain rfl := he _ _ _ h1
  exact hf _ _ _ _ h2
theorem looks_cells (P : Program) (a : Addr) : ∀ (n i : Nat) (acc : Array Value), Looks P (loadCellsFrom a i n acc)
  | 0, i, acc => looks_of (calm_pure P _)
  | n + 1, i, acc => looks_bind (looks_load P _) fun v => looks_cells P a n (i + 1) _
theorem looks_loadVar (P : Program) (t : TypeId) (a : Addr) : Looks P (loadVar t a) := by
  unfold loadVar
  refine looks_bind (looks_of (calm_isAgg P t)) fun b => ?_
  split
  · exact looks_bind (looks_of (calm_sizeOf P t)) fun n => looks_bind (looks_cells P a _ _ _) fun _ => looks_of (calm_pure P _)
  · exact looks_load P a
theorem looks_exec {P : Program} {ρ : Operand → Value} {o : Oper} (hk : kindOf P o = .read) : ∀ w n w', (execOp ρ o).run P w = .ok n w' → w' = w ∧ ∃ v, n = .value v := by
  obtain ⟨dst, op, type, pos, after, guard⟩ := o
  intro w n w' h
  cases op <;> simp only [kindOf, reduceCtorEq] at hk
  case load t a =>
    simp only [execOp] at h
    obtain ⟨v, w1, h1, h2⟩ := run_bind_ok h
    have : Looks P (Instr.loadAt t (ρ a)) := looks_bind (looks_of (calm_sureAddr P _)) fun _ => looks_loadVar P t _
    obtain rfl := this _ _ _ h1
    simp only [Sem.run_pure, Result.ok.injEq] at h2
    exact ⟨h2.2.symm, v, h2.1.symm⟩
  case fieldAddr s x f => split at hk <;> cases hk
  case binOp b t x y yt => cases b <;> simp only [reduceCtorEq] at hk <;> (split at hk <;> cases hk)
  case convert s d x => split at hk <;> cases hk
  case call c =>
    obtain ⟨callee, args, ats⟩ := c
    cases callee with
    | value f => cases hk
    | invoke r m => cases hk
    | builtin b => cases b <;> simp only [reduceCtorEq] at hk <;> (split at hk <;> cases hk)
end Go.Pw

namespace Go.Pw
open Go
set_option linter.unusedVariables false

section
variable {P : Program} {ops : Array Oper}

def Nope : Exit → Act → World → Prop := fun _ _ _ => False
theorem nope_outs : ¬ LetsOut Nope := fun ⟨_, _, h⟩ => h

def T1 (P : Program) (ops : Array Oper) (o : Oper) (K : Act → World → Prop) (a : Act) (w : World) : Prop :=
  if Region.wanted o (yielded ops a.tmps) = true then (kindOf P o = .pure → calmOk a.eval o = true) ∧ o.wp P a w K Nope
  else K (a.put o.dst undef) w
def wpT (P : Program) (ops : Array Oper) (Q : Act → World → Prop) : List Oper → Act → World → Prop
  | [], a, w => Q a w
  | o :: r, a, w => T1 P ops o (wpT P ops Q r) a w
def TI (P : Program) (ops : Array Oper) (i : Nat) (K : Act → World → Prop) (a : Act) (w : World) : Prop :=
  match ops[i]? with
  | none => K a w
  | some o => T1 P ops o K a w
def wpI (P : Program) (ops : Array Oper) (Q : Act → World → Prop) : List Nat → Act → World → Prop
  | [], a, w => Q a w
  | i :: r, a, w => TI P ops i (wpI P ops Q r) a w

theorem T1_mono {o : Oper} {K K' : Act → World → Prop} {a : Act} {w : World} (h : ∀ a w, K a w → K' a w) (hh : T1 P ops o K a w) : T1 P ops o K' a w := by
  unfold T1 at *
  split
  · rename_i hw; rw [if_pos hw] at hh; exact ⟨hh.1, Oper.wp_mono h hh.2⟩
  · rename_i hw; rw [if_neg hw] at hh; exact h _ _ hh
theorem TI_mono {i : Nat} {K K' : Act → World → Prop} {a : Act} {w : World} (h : ∀ a w, K a w → K' a w) (hh : TI P ops i K a w) : TI P ops i K' a w := by
  unfold TI at *
  split
  · rename_i ho; simp only [ho] at hh; exact h _ _ hh
  · rename_i o ho; simp only [ho] at hh; exact T1_mono h hh

theorem wp_of_nope {o : Oper} {K : Act → World → Prop} {Q : Exit → Act → World → Prop} {a : Act} {w : World} (hh : o.wp P a w K Nope) : o.wp P a w K Q := by
  unfold Oper.wp at *
  generalize (execOp a.eval o).run P w = r at *
  cases r with
  | ok n w' =>
    cases n <;> simp only [Oper.upon] at hh ⊢ <;> first
      | exact hh
      | exact Calls.mono hh (fun e w'' he => by cases e <;> first | exact he | exact he.elim | exact (nope_outs he).elim)
  | halt x w' => cases x <;> simp only [Oper.upon] at hh ⊢ <;> exact hh.elim
theorem wpOp_of_TI {i : Nat} {K : Act → World → Prop} {Q : Exit → Act → World → Prop} {a : Act} {w : World} (hh : TI P ops i K a w) : wpOp P ops Q i K a w := by
  unfold TI at hh; unfold wpOp
  split
  · rename_i ho; simp only [ho] at hh; exact hh
  · rename_i o ho
    simp only [ho] at hh
    unfold T1 at hh
    split
    · rename_i hw; rw [if_pos hw] at hh; exact .inl (wp_of_nope hh.2)
    · rename_i hw; rw [if_neg hw] at hh; exact hh

theorem calmOk_congr {ρ ρ' : Operand → Value} {o : Oper} (hk : kindOf P o = .pure) (h : ∀ x ∈ o.op.operands, ρ x = ρ' x) : calmOk ρ o = calmOk ρ' o := by
  obtain ⟨dst, op, type, pos, after, guard⟩ := o
  cases op <;> simp only [Op.operands] at h <;> simp only [calmOk]
  case nilCheck x => rw [h x (by simp)]
  case binOp op xt x y yt => rw [h x (by simp), h y (by simp)]
  case convert s d x => rw [h x (by simp)]
  case call c =>
    obtain ⟨callee, args, ats⟩ := c
    simp only [kindOf] at hk
    cases callee with
    | value f => rfl
    | invoke r m => rfl
    | builtin b =>
      cases b <;> simp only [reduceCtorEq] at hk <;> simp only []
      case len =>
        split at hk
        · rename_i hs
          obtain ⟨x, rfl⟩ : ∃ x, args = #[x] := Array.size_eq_one_iff.1 hs
          have := h x (by simp [Call.operands])
          simp [this]
        · cases hk
      case max =>
        split at hk
        · rename_i hs
          obtain ⟨x, y, rfl⟩ : ∃ x y, args = #[x, y] := by
            obtain ⟨l⟩ := args
            match l, hs with
            | [x, y], _ => exact ⟨x, y, rfl⟩
          have h1 := h x (by simp [Call.operands])
          have h2 := h y (by simp [Call.operands])
          simp [h1, h2]
        · cases hk
      case min =>
        split at hk
        · rename_i hs
          obtain ⟨x, y, rfl⟩ : ∃ x y, args = #[x, y] := by
            obtain ⟨l⟩ := args
            match l, hs with
            | [x, y], _ => exact ⟨x, y, rfl⟩
          have h1 := h x (by simp [Call.operands])
          have h2 := h y (by simp [Call.operands])
          simp [h1, h2]
        · cases hk

def NoSel (o : Oper) : Prop := ∀ cs b, o.op ≠ .select cs b

theorem calmOk_put {o : Oper} (hk : kindOf P o = .pure) (a : Act) (dst : Option Tmp) (v : Value) (h : ∀ d, dst = some d → d ∉ o.looksAt ops) :
    calmOk (a.put dst v).eval o = calmOk a.eval o :=
  calmOk_congr hk fun x hx => Act.eval_put fun d hd hxd => h d hd (by
    subst hxd
    exact List.mem_append_left _ (List.mem_filterMap.2 ⟨.tmp d, by simpa using hx, rfl⟩))

/-- A pure operation: what it yields, in every world. -/
def YieldsP (P : Program) (ops : Array Oper) (o : Oper) (v : Value) (a : Act) : Prop :=
  (Region.wanted o (yielded ops a.tmps) = true ∧ calmOk a.eval o = true ∧ ∀ w, (execOp a.eval o).run P w = .ok (.value v) w) ∨
  (Region.wanted o (yielded ops a.tmps) = false ∧ v = undef)
theorem YieldsP.put {o : Oper} {v : Value} {a : Act} (hk : kindOf P o = .pure) (hs : NoSel o) (hy : YieldsP P ops o v a) (dst : Option Tmp) (u : Value) (h : ∀ d, dst = some d → d ∉ o.looksAt ops) :
    YieldsP P ops o v (a.put dst u) := by
  unfold YieldsP at *
  rw [execOp_put o hs a dst u h, wanted_put o a dst u h, calmOk_put hk a dst u h]
  exact hy
theorem YieldsP.unput {o : Oper} {v : Value} {a : Act} (hk : kindOf P o = .pure) (hs : NoSel o) (dst : Option Tmp) (u : Value) (h : ∀ d, dst = some d → d ∉ o.looksAt ops) (hy : YieldsP P ops o v (a.put dst u)) :
    YieldsP P ops o v a := by
  unfold YieldsP at *
  rw [execOp_put o hs a dst u h, wanted_put o a dst u h, calmOk_put hk a dst u h] at hy
  exact hy
theorem YieldsP.defers {o : Oper} {v : Value} {a : Act} (ds : List Deferred) (hy : YieldsP P ops o v a) : YieldsP P ops o v { a with defers := ds } := hy
theorem YieldsP.uniq {o : Oper} {u v : Value} {a : Act} (h : YieldsP P ops o u a) (k : YieldsP P ops o v a) : u = v := by
  rcases h with ⟨h1, _, h3⟩ | ⟨h1, rfl⟩ <;> rcases k with ⟨k1, _, k3⟩ | ⟨k1, rfl⟩
  · have := (h3 default).symm.trans (k3 default); simpa using this
  · rw [h1] at k1; cases k1
  · rw [h1] at k1; cases k1
  · rfl
theorem YieldsP.t1 {o : Oper} {v : Value} {a : Act} {K : Act → World → Prop} {w : World} (hy : YieldsP P ops o v a) (h : K (a.put o.dst v) w) : T1 P ops o K a w := by
  unfold T1
  rcases hy with ⟨h1, h2, h3⟩ | ⟨h1, rfl⟩
  · rw [if_pos h1]; refine ⟨fun _ => h2, ?_⟩; unfold Oper.wp; rw [h3 w]; exact h
  · rw [if_neg (by simp [h1])]; exact h
theorem yieldsP_of_t1 {o : Oper} {a : Act} {K : Act → World → Prop} {w : World} (hk : kindOf P o = .pure) (h : T1 P ops o K a w) : ∃ v, YieldsP P ops o v a ∧ K (a.put o.dst v) w := by
  unfold T1 at h
  split at h
  · rename_i hw
    obtain ⟨hc, h⟩ := h
    have hcv := calm_exec (ρ := a.eval) hk (hc hk)
    unfold Oper.wp at h
    cases hr : (execOp a.eval o).run P w with
    | ok n w' =>
      obtain ⟨v, rfl, rfl, k⟩ := hcv _ _ _ hr
      rw [hr] at h
      exact ⟨v, .inl ⟨hw, hc hk, k⟩, h⟩
    | halt x w' =>
      rw [hr] at h
      cases x <;> simp only [Oper.upon] at h <;> exact h.elim
  · rename_i hw
    exact ⟨undef, .inr ⟨by simpa using hw, rfl⟩, h⟩

/-- What 'x' then 'y' do, 'y' then 'x' do: x is pure. -/
theorem swap_l {x y : Oper} {K : Act → World → Prop} {a : Act} {w : World} (hap : x.apart ops y = true) (hsx : NoSel x) (hsy : NoSel y) (hk : kindOf P x = .pure)
    (h : T1 P ops x (T1 P ops y K) a w) : T1 P ops y (T1 P ops x K) a w := by
  obtain ⟨h1, h2, h3⟩ := Oper.apart_spec hap
  obtain ⟨v, hy, h⟩ := yieldsP_of_t1 hk h
  have fin : ∀ (a : Act) (u : Value) (w' : World), YieldsP P ops x v a → K ((a.put y.dst u).put x.dst v) w' → T1 P ops x K (a.put y.dst u) w' :=
    fun a u w' hy hK => (hy.put hk hsx y.dst u h3).t1 hK
  unfold T1 at h ⊢
  rw [wanted_put y a x.dst v h1] at h
  split
  · rename_i hw
    rw [if_pos hw] at h
    obtain ⟨hc, h⟩ := h
    refine ⟨fun hky => by rw [← calmOk_put (ops := ops) hky a x.dst v h1]; exact hc hky, ?_⟩
    unfold Oper.wp at *
    rw [execOp_put y hsy a x.dst v h1] at h
    generalize (execOp a.eval y).run P w = r at *
    cases r with
    | ok n w' =>
      cases n <;> simp only [Oper.upon] at h ⊢
      case value u => exact fin a u w' hy (by rw [← Act.put_comm a v u h2]; exact h)
      case skip => exact fin a _ w' hy (by rw [← Act.put_comm a v undef h2]; exact h)
      case defer d =>
        refine fin _ _ w' (hy.defers _) ?_
        rw [← Act.put_comm _ v undef h2, ← Act.put_defers]
        exact h
      case enter f args =>
        refine Calls.mono h fun e w'' he => ?_
        cases e with
        | returned u => exact fin a u w'' hy (by rw [← Act.put_comm a v u h2]; exact he)
        | panicked c => exact he
        | outgrown => exact he
      case row row args => exact Rows.mono h fun u w'' he => fin a u w'' hy (by rw [← Act.put_comm a v u h2]; exact he)
    | halt q w' => cases q <;> simp only [Oper.upon] at h ⊢ <;> exact h.elim
  · rename_i hw
    rw [if_neg hw] at h
    exact fin a _ w hy (by rw [← Act.put_comm a v undef h2]; exact h)
/-- The same, y is pure. -/
theorem swap_r {x y : Oper} {K : Act → World → Prop} {a : Act} {w : World} (hap : x.apart ops y = true) (hsx : NoSel x) (hsy : NoSel y) (hk : kindOf P y = .pure)
    (h : T1 P ops x (T1 P ops y K) a w) : T1 P ops y (T1 P ops x K) a w := by
  obtain ⟨h1, h2, h3⟩ := Oper.apart_spec hap
  have back : ∀ (a : Act) (u : Value) (w' : World), T1 P ops y K (a.put x.dst u) w' → ∃ v, YieldsP P ops y v a ∧ K ((a.put x.dst u).put y.dst v) w' := fun a u w' h => by
    obtain ⟨v, hy, hK⟩ := yieldsP_of_t1 hk h
    exact ⟨v, hy.unput hk hsy x.dst u h1, hK⟩
  have key : ∃ v, YieldsP P ops y v a := by
    unfold T1 at h
    split at h
    · obtain ⟨_, h⟩ := h
      unfold Oper.wp at h
      generalize (execOp a.eval x).run P w = r at *
      cases r with
      | ok n w' =>
        cases n <;> simp only [Oper.upon] at h
        case value u => obtain ⟨v, hy, _⟩ := back a u w' h; exact ⟨v, hy⟩
        case skip => obtain ⟨v, hy, _⟩ := back a _ w' h; exact ⟨v, hy⟩
        case defer d => obtain ⟨v, hy, _⟩ := back _ _ w' h; exact ⟨v, hy⟩
        case enter f args =>
          obtain ⟨e, w'', fr, hR, _⟩ := h []
          cases e with
          | returned u => obtain ⟨v, hy, _⟩ := back a u w'' hR; exact ⟨v, hy⟩
          | panicked c => exact hR.elim
          | outgrown => exact (nope_outs hR).elim
        case row row args =>
          obtain ⟨u, w'', hR, _⟩ := h default []
          obtain ⟨v, hy, _⟩ := back a u w'' hR; exact ⟨v, hy⟩
      | halt q w' => cases q <;> simp only [Oper.upon] at h <;> exact h.elim
    · obtain ⟨v, hy, _⟩ := back a _ w h; exact ⟨v, hy⟩
  obtain ⟨v, hy⟩ := key
  refine hy.t1 ?_
  have fwd : ∀ (a : Act) (u : Value) (w' : World), YieldsP P ops y v a → T1 P ops y K (a.put x.dst u) w' → K ((a.put y.dst v).put x.dst u) w' := fun a u w' hy h => by
    obtain ⟨v', hy', hK⟩ := back a u w' h
    obtain rfl := hy'.uniq hy
    rw [← Act.put_comm a u v' h2]; exact hK
  have hd : ∀ d, y.dst = some d → d ∉ x.looksAt ops := h3
  unfold T1 at h ⊢
  rw [wanted_put x a y.dst v hd]
  split
  · rename_i hw
    rw [if_pos hw] at h
    obtain ⟨hc, h⟩ := h
    refine ⟨fun hkx => by rw [calmOk_put (ops := ops) hkx a y.dst v hd]; exact hc hkx, ?_⟩
    unfold Oper.wp at *
    rw [execOp_put x hsx a y.dst v hd]
    generalize (execOp a.eval x).run P w = r at *
    cases r with
    | ok n w' =>
      cases n <;> simp only [Oper.upon] at h ⊢
      case value u => exact fwd a u w' hy h
      case skip => exact fwd a _ w' hy h
      case defer d =>
        have := fwd { a with defers := d :: a.defers } undef w' (hy.defers _) h
        rw [Act.put_defers]; exact this
      case enter f args =>
        refine Calls.mono h fun e w'' he => ?_
        cases e with
        | returned u => exact fwd a u w'' hy he
        | panicked c => exact he
        | outgrown => exact he
      case row row args => exact Rows.mono h fun u w'' he => fwd a u w'' hy he
    | halt q w' => cases q <;> simp only [Oper.upon] at h ⊢ <;> exact h.elim
  · rename_i hw
    rw [if_neg hw] at h
    exact fwd a _ w hy h
/-- Both only look. -/
def YieldsW (P : Program) (ops : Array Oper) (w : World) (o : Oper) (v : Value) (a : Act) : Prop :=
  (Region.wanted o (yielded ops a.tmps) = true ∧ (execOp a.eval o).run P w = .ok (.value v) w) ∨
  (Region.wanted o (yielded ops a.tmps) = false ∧ v = undef)
theorem yieldsW_of_t1 {o : Oper} {a : Act} {K : Act → World → Prop} {w : World} (hk : kindOf P o = .read) (h : T1 P ops o K a w) : ∃ v, YieldsW P ops w o v a ∧ K (a.put o.dst v) w := by
  unfold T1 at h
  split at h
  · rename_i hw
    obtain ⟨hc, h⟩ := h
    unfold Oper.wp at h
    cases hr : (execOp a.eval o).run P w with
    | ok n w' =>
      obtain ⟨rfl, v, rfl⟩ := looks_exec (ρ := a.eval) hk _ _ _ hr
      rw [hr] at h
      exact ⟨v, .inl ⟨hw, hr⟩, h⟩
    | halt x w' =>
      rw [hr] at h
      cases x <;> simp only [Oper.upon] at h <;> exact h.elim
  · rename_i hw
    exact ⟨undef, .inr ⟨by simpa using hw, rfl⟩, h⟩
theorem YieldsW.t1 {o : Oper} {v : Value} {a : Act} {K : Act → World → Prop} {w : World} (hk : kindOf P o = .read) (hy : YieldsW P ops w o v a) (h : K (a.put o.dst v) w) : T1 P ops o K a w := by
  unfold T1
  rcases hy with ⟨h1, h3⟩ | ⟨h1, rfl⟩
  · rw [if_pos h1]; refine ⟨fun h => (by rw [hk] at h; cases h), ?_⟩; unfold Oper.wp; rw [h3]; exact h
  · rw [if_neg (by simp [h1])]; exact h
theorem YieldsW.put_iff {o : Oper} {v : Value} {a : Act} {w : World} (hs : NoSel o) (dst : Option Tmp) (u : Value) (h : ∀ d, dst = some d → d ∉ o.looksAt ops) :
    YieldsW P ops w o v (a.put dst u) ↔ YieldsW P ops w o v a := by
  unfold YieldsW
  rw [execOp_put o hs a dst u h, wanted_put o a dst u h]
theorem swap_rr {x y : Oper} {K : Act → World → Prop} {a : Act} {w : World} (hap : x.apart ops y = true) (hsx : NoSel x) (hsy : NoSel y) (hkx : kindOf P x = .read) (hky : kindOf P y = .read)
    (h : T1 P ops x (T1 P ops y K) a w) : T1 P ops y (T1 P ops x K) a w := by
  obtain ⟨h1, h2, h3⟩ := Oper.apart_spec hap
  obtain ⟨u, hx, h⟩ := yieldsW_of_t1 hkx h
  obtain ⟨v, hy, h⟩ := yieldsW_of_t1 hky h
  rw [YieldsW.put_iff hsy _ _ h1] at hy
  refine hy.t1 hky (((YieldsW.put_iff hsx _ _ h3).2 hx).t1 hkx ?_)
  rw [← Act.put_comm a u v h2]; exact h

def commB (P : Program) (ops : Array Oper) (x y : Oper) : Bool :=
  x.apart ops y && (kindOf P x == .pure || kindOf P y == .pure || (kindOf P x == .read && kindOf P y == .read))
theorem swap {x y : Oper} {K : Act → World → Prop} {a : Act} {w : World} (hsx : NoSel x) (hsy : NoSel y) (hc : commB P ops x y = true)
    (h : T1 P ops x (T1 P ops y K) a w) : T1 P ops y (T1 P ops x K) a w := by
  simp only [commB, Bool.and_eq_true, Bool.or_eq_true, beq_iff_eq] at hc
  obtain ⟨hap, (hk | hk) | ⟨hk, hk'⟩⟩ := hc
  · exact swap_l hap hsx hsy hk h
  · exact swap_r hap hsx hsy hk h
  · exact swap_rr hap hsx hsy hk hk' h

def selB (o : Oper) : Bool := match o.op with | .select .. => false | _ => true
theorem noSel_of {o : Oper} (h : selB o = true) : NoSel o := fun cs b he => by simp [selB, he] at h

/-- THE CHECK: every pair that the edges leave open commutes. -/
def textB (P : Program) (ops : Array Oper) : Bool :=
  let m := Region.before ops
  (List.range ops.size).all fun i =>
    let o := ops.getD i default
    selB o && o.after.all (fun e => !Region.binds .any e || decide (e.on < i)) &&
    (List.range i).all fun j =>
      if (m.getD i 0).testBit j then o.after.any (fun e => Region.binds .any e && (e.on == j || (decide (j < e.on) && (m.getD e.on 0).testBit j)))
      else commB P ops (ops.getD j default) o

structure TextOk (P : Program) (ops : Array Oper) (m : Array Nat) : Prop where
  sel : ∀ (i : Nat) (o : Oper), ops[i]? = some o → NoSel o
  back : ∀ (i : Nat) (o : Oper), ops[i]? = some o → ∀ e ∈ o.after, Region.binds .any e = true → e.on < i
  dep : ∀ (i : Nat) (o : Oper), ops[i]? = some o → ∀ j, j < i → (m.getD i 0).testBit j = true → ∃ e ∈ o.after, Region.binds .any e = true ∧ (e.on = j ∨ (j < e.on ∧ (m.getD e.on 0).testBit j = true))
  comm : ∀ (i : Nat) (o : Oper), ops[i]? = some o → ∀ (j : Nat) (p : Oper), ops[j]? = some p → j < i → (m.getD i 0).testBit j = false → commB P ops p o = true
theorem textOk_of (h : textB P ops = true) : TextOk P ops (Region.before ops) := by
  unfold textB at h
  simp only [List.all_eq_true, List.mem_range, Bool.and_eq_true] at h
  have lt : ∀ (i : Nat) (o : Oper), ops[i]? = some o → i < ops.size ∧ ops.getD i default = o := fun i o ho => by
    obtain ⟨hi, he⟩ := Array.getElem?_eq_some_iff.1 ho
    exact ⟨hi, by simp [hi, he]⟩
  refine ⟨fun i o ho => ?_, fun i o ho e he hb => ?_, fun i o ho j hj hm => ?_, fun i o ho j p hp hj hm => ?_⟩
  · obtain ⟨hi, he⟩ := lt i o ho
    have := (h i hi).1.1
    rw [he] at this; exact noSel_of this
  · obtain ⟨hi, he'⟩ := lt i o ho
    have := (h i hi).1.2
    rw [he'] at this
    have := (Array.all_eq_true_iff_forall_mem.1 this) e he
    simpa [hb] using this
  · obtain ⟨hi, he'⟩ := lt i o ho
    have := (h i hi).2 j hj
    rw [he', if_pos hm] at this
    obtain ⟨e, he, hb⟩ := Array.any_eq_true'.1 this
    simp only [Bool.and_eq_true, Bool.or_eq_true, beq_iff_eq, decide_eq_true_eq] at hb
    exact ⟨e, he, hb.1, hb.2⟩
  · obtain ⟨hi, he'⟩ := lt i o ho
    obtain ⟨_, hp'⟩ := lt j p hp
    have := (h i hi).2 j hj
    rw [he', hp', hm] at this
    simpa using this

def Closed (ops : Array Oper) (listed : Array Bool) : Prop :=
  ∀ (i : Nat) (o : Oper), ops[i]? = some o → listed.getD i false = true → ∀ e ∈ o.after, Region.binds .any e = true → listed.getD e.on false = true

theorem dep_listed {m : Array Nat} {listed : Array Bool} (ok : TextOk P ops m) (hcl : Closed ops listed) : ∀ (n i : Nat) (o : Oper), i ≤ n → ops[i]? = some o →
    (∀ e ∈ o.after, Region.binds .any e = true → listed.getD e.on false = true) → ∀ j, j < i → (m.getD i 0).testBit j = true → listed.getD j false = true := by
  intro n
  induction n with
  | zero => intro i o hi _ _ j hj; omega
  | succ n ih =>
    intro i o hi ho hdeps j hj hm
    obtain ⟨e, he, hb, hor⟩ := ok.dep i o ho j hj hm
    have hlt := ok.back i o ho e he hb
    have hl := hdeps e he hb
    rcases hor with rfl | hor
    · exact hl
    · obtain ⟨o', ho'⟩ : ∃ o', ops[e.on]? = some o' := by
        obtain ⟨hi', _⟩ := Array.getElem?_eq_some_iff.1 ho
        exact ⟨ops[e.on], Array.getElem?_eq_getElem (by omega)⟩
      exact ih e.on o' (by omega) ho' (hcl e.on o' ho' hl) j hor.1 hor.2

theorem bubble {Q : Act → World → Prop} {m : Array Nat} (ok : TextOk P ops m) {i : Nat} {o : Oper} (ho : ops[i]? = some o) : ∀ (pre post : List Nat),
    (∀ j ∈ pre, j < i ∧ (m.getD i 0).testBit j = false) → ∀ (a : Act) (w : World), wpI P ops Q (pre ++ i :: post) a w → TI P ops i (wpI P ops Q (pre ++ post)) a w
  | [], post, _, a, w, h => h
  | j :: pre, post, hp, a, w, h => by
    have ih := bubble (Q := Q) ok ho pre post (fun k hk => hp k (List.mem_cons_of_mem _ hk))
    have h' : TI P ops j (TI P ops i (wpI P ops Q (pre ++ post))) a w := TI_mono (fun a w => ih a w) h
    show TI P ops i (TI P ops j (wpI P ops Q (pre ++ post))) a w
    obtain ⟨hj, hm⟩ := hp j List.mem_cons_self
    unfold TI at h' ⊢
    simp only [ho] at h' ⊢
    cases hpj : ops[j]? with
    | none => simp only [hpj] at h' ⊢; exact h'
    | some p =>
      simp only [hpj] at h' ⊢
      exact swap (ok.sel j p hpj) (ok.sel i o ho) (ok.comm i o ho j p hpj hj hm) h'

theorem anyOrder {Q : Exit → Act → World → Prop} {m : Array Nat} (ok : TextOk P ops m) : ∀ (fuel : Nat) (L : List Nat) (listed : Array Bool) (a : Act) (w : World),
    L.length = fuel → listed.size = ops.size → Closed ops listed → L.Pairwise (· < ·) → (∀ j, j ∈ L ↔ j < ops.size ∧ listed.getD j false = false) →
    wpI P ops (Q .normal) L a w → wpAny P .any ops Q fuel listed a w := by
  intro fuel
  induction fuel with
  | zero =>
    intro L listed a w hlen hsz hcl hpw hmem h
    obtain rfl : L = [] := List.eq_nil_of_length_eq_zero hlen
    refine ⟨?_, h⟩
    refine List.eq_nil_iff_forall_not_mem.2 fun i hi => ?_
    obtain ⟨h0, o, ho, _⟩ := mem_ready.1 hi
    have hlt : i < ops.size := (Array.getElem?_eq_some_iff.1 ho).1
    have h0' : listed.getD i false = false := by
      have : i < listed.size := by omega
      simp [this] at h0 ⊢; exact h0
    have := (hmem i).2 ⟨hlt, h0'⟩
    cases this
  | succ fuel ih =>
    intro L listed a w hlen hsz hcl hpw hmem h
    refine ⟨fun hr => ?_, fun i hi => ?_⟩
    · cases L with
      | nil => cases hlen
      | cons i L =>
        exfalso
        obtain ⟨hlt, h0⟩ := (hmem i).1 List.mem_cons_self
        have hrdy : i ∈ Region.ready .any ops listed := by
          refine mem_ready.2 ⟨?_, ops[i], Array.getElem?_eq_getElem hlt, fun e he hb => ?_⟩
          · have : i < listed.size := by omega
            simp [this] at h0 ⊢; exact h0
          · have hlt' := ok.back i _ (Array.getElem?_eq_getElem hlt) e he hb
            cases hl : listed.getD e.on false with
            | true => rfl
            | false =>
              have hin := (hmem e.on).2 ⟨by omega, hl⟩
              rcases List.mem_cons.1 hin with heq | hin
              · omega
              · have := (List.pairwise_cons.1 hpw).1 _ hin; omega
        rw [hr] at hrdy; cases hrdy
    · obtain ⟨h0, o, ho, hdeps⟩ := mem_ready.1 hi
      have hlt : i < ops.size := (Array.getElem?_eq_some_iff.1 ho).1
      have hil : i < listed.size := by omega
      have h0' : listed.getD i false = false := by simp [hil] at h0 ⊢; exact h0
      have hin := (hmem i).2 ⟨hlt, h0'⟩
      obtain ⟨pre, post, rfl⟩ := List.append_of_mem hin
      have hpre : ∀ j ∈ pre, j < i := fun j hj => (List.pairwise_append.1 hpw).2.2 j hj i List.mem_cons_self
      refine wpOp_of_TI (TI_mono (fun a w h => ?_) (bubble ok ho pre post (fun j hj => ⟨hpre j hj, ?_⟩) a w h))
      · refine ih (pre ++ post) _ a w (by simp at hlen ⊢; omega) (by simp [hsz]) ?_ ?_ ?_ h
        · intro k p hk hl e he hb
          by_cases hki : k = i
          · subst hki
            obtain rfl : p = o := Option.some.inj (hk.symm.trans ho)
            exact getD_set_true (hdeps e he hb)
          · rw [getD_set_ne false (fun h => hki h.symm)] at hl
            exact getD_set_true (hcl k p hk hl e he hb)
        · exact hpw.sublist (List.Sublist.append_left (List.sublist_cons_self _ _) _)
        · intro j
          have hne : j ∈ pre ++ post → j ≠ i := fun hj e => by
            subst e
            rcases List.mem_append.1 hj with hj | hj
            · have := hpre _ hj; omega
            · have := (List.pairwise_cons.1 (List.pairwise_append.1 hpw).2.1).1 _ hj; omega
          constructor
          · intro hj
            have hj' : j ∈ pre ++ i :: post := by
              rcases List.mem_append.1 hj with hj | hj
              · exact List.mem_append_left _ hj
              · exact List.mem_append_right _ (List.mem_cons_of_mem _ hj)
            obtain ⟨k1, k2⟩ := (hmem j).1 hj'
            exact ⟨k1, by rw [getD_set_ne false (fun h => hne hj h.symm)]; exact k2⟩
          · rintro ⟨k1, k2⟩
            have hji : j ≠ i := fun e => by subst e; simp [hil] at k2
            rw [getD_set_ne false (fun h => hji h.symm)] at k2
            have := (hmem j).2 ⟨k1, k2⟩
            rcases List.mem_append.1 this with hj | hj
            · exact List.mem_append_left _ hj
            · rcases List.mem_cons.1 hj with rfl | hj
              · exact absurd rfl hji
              · exact List.mem_append_right _ hj
      · cases hm : (m.getD i 0).testBit j with
        | false => rfl
        | true =>
          have hl := dep_listed ok hcl i i o (Nat.le_refl _) ho hdeps j (hpre j hj) hm
          have := ((hmem j).1 (List.mem_append_left _ hj)).2
          rw [hl] at this; cases this

theorem wpT_eq_wpI {Q : Act → World → Prop} (l : List Oper) : ∀ k, (∀ j, l[j]? = ops[k + j]?) → wpI P ops Q (List.range' k l.length) = wpT P ops Q l := by
  induction l with
  | nil => intro k _; rfl
  | cons o l ih =>
    intro k h
    have h0 : ops[k]? = some o := by simpa using (h 0).symm
    have ih' := ih (k + 1) (fun j => by have := h (j + 1); simpa [Nat.add_assoc, Nat.add_comm 1 j] using this)
    funext a w
    simp only [List.length_cons, List.range'_succ, wpI, TI, h0, wpT, ih']

/-- A REGION THAT DRAWS ITS ORDER, WALKED ONCE IN THE ORDER OF THE TEXT. -/
theorem wp_region_text {Q : Exit → Act → World → Prop} {id : Nat} {l : List Oper} {a : Act} {w : World} (hm : P.follows .mixedOrders = true) (hB : textB P l.toArray = true)
    (h : wpT P l.toArray (fun a w => Q .normal a w) l a w.drew) : (Code.region id l.toArray true).wp P Q a w := by
  refine wp_region_any hm ?_
  have ok := textOk_of hB
  have hz : ∀ j, (Array.replicate l.toArray.size false).getD j false = false := fun j => by
    simp only [Array.getD_eq_getD_getElem?, Array.getElem?_replicate]; split <;> rfl
  refine anyOrder ok _ (List.range l.toArray.size) _ a _ (by simp) (by simp) ?_ ?_ ?_ ?_
  · intro i o _ hl; rw [hz] at hl; cases hl
  · exact List.pairwise_lt_range
  · intro j; rw [hz]; simp
  · have := wpT_eq_wpI (P := P) (ops := l.toArray) (Q := fun a w => Q .normal a w) l 0 (by simp)
    rw [show List.range l.toArray.size = List.range' 0 l.length from by simp [List.range_eq_range']]
    rw [this]; exact h

theorem wpT_nil {Q : Act → World → Prop} {a : Act} {w : World} (h : Q a w) : wpT P ops Q [] a w := h
theorem wpT_plain {Q : Act → World → Prop} {a : Act} {w : World} {o : Oper} {rest : List Oper} (hg : o.guard = none) (hc : calmOk a.eval o = true)
    (h : ∀ K : Act → World → Prop, (∀ a w, wpT P ops Q rest a w → K a w) → o.wp P a w K Nope) : wpT P ops Q (o :: rest) a w := by
  show T1 P ops o _ a w
  unfold T1
  rw [if_pos (by simp [Region.wanted, hg])]
  exact ⟨fun _ => hc, h _ fun _ _ h => h⟩
theorem wpT_yes {Q : Act → World → Prop} {a : Act} {w : World} {o : Oper} {rest : List Oper} (hg : Region.wanted o (yielded ops a.tmps) = true) (hc : calmOk a.eval o = true)
    (h : ∀ K : Act → World → Prop, (∀ a w, wpT P ops Q rest a w → K a w) → o.wp P a w K Nope) : wpT P ops Q (o :: rest) a w := by
  show T1 P ops o _ a w
  unfold T1
  rw [if_pos hg]
  exact ⟨fun _ => hc, h _ fun _ _ h => h⟩
theorem wpT_no {Q : Act → World → Prop} {a : Act} {w : World} {o : Oper} {rest : List Oper} (hg : Region.wanted o (yielded ops a.tmps) = false)
    (h : wpT P ops Q rest (a.put o.dst undef) w) : wpT P ops Q (o :: rest) a w := by
  show T1 P ops o _ a w
  unfold T1
  rw [if_neg (by simp [hg])]
  exact h
/-- A guard that is not decided: both ways. -/
theorem wpT_if {Q : Act → World → Prop} {a : Act} {w : World} {o : Oper} {rest : List Oper} {b : Bool} (hg : Region.wanted o (yielded ops a.tmps) = b)
    (hy : b = true → calmOk a.eval o = true ∧ ∀ K : Act → World → Prop, (∀ a w, wpT P ops Q rest a w → K a w) → o.wp P a w K Nope)
    (hn : b = false → wpT P ops Q rest (a.put o.dst undef) w) : wpT P ops Q (o :: rest) a w := by
  cases hb : b
  · exact wpT_no (hg.trans hb) (hn hb)
  · exact wpT_yes (hg.trans hb) (hy hb).1 (hy hb).2
end
end Go.Pw

namespace Go.Pw
open Go
set_option linter.unusedVariables false

/-- From w to w' nothing that was there has turned, but for the blocks of c. -/
structure Keeps (w w' : World) (c : Nat → Prop) : Prop where
  os : w'.os = w.os
  tape : w'.tape = w.tape
  output : w'.output = w.output
  size : w.heap.size ≤ w'.heap.size
  block : ∀ k, k < w.heap.size → ¬ c k → w'.heap[k]? = w.heap[k]?
def none_ : Nat → Prop := fun _ => False
def one_ (b : Nat) : Nat → Prop := fun k => k = b
def two_ (b b' : Nat) : Nat → Prop := fun k => k = b ∨ k = b'
theorem Keeps.refl (w : World) (c : Nat → Prop) : Keeps w w c := ⟨rfl, rfl, rfl, Nat.le_refl _, fun _ _ _ => rfl⟩
theorem Keeps.trans {a b d : World} {c c' : Nat → Prop} (h : Keeps a b c) (k : Keeps b d c') (hc : ∀ i, i < a.heap.size → c' i → c i) : Keeps a d c :=
  ⟨k.os.trans h.os, k.tape.trans h.tape, k.output.trans h.output, Nat.le_trans h.size k.size, fun i hi hn =>
    (k.block i (Nat.lt_of_lt_of_le hi h.size) (fun h' => hn (hc i hi h'))).trans (h.block i hi hn)⟩
theorem Keeps.trans' {a b d : World} {c : Nat → Prop} (h : Keeps a b c) (k : Keeps b d c) : Keeps a d c := h.trans k fun _ _ h => h
theorem Keeps.trans0 {a b d : World} {c : Nat → Prop} (h : Keeps a b c) (k : Keeps b d none_) : Keeps a d c := h.trans k fun _ _ h => h.elim
theorem Keeps.mono {a b : World} {c c' : Nat → Prop} (h : Keeps a b c) (hc : ∀ i, i < a.heap.size → c i → c' i) : Keeps a b c' :=
  ⟨h.os, h.tape, h.output, h.size, fun i hi hn => h.block i hi fun h' => hn (hc i hi h')⟩
theorem Keeps.of_none {a b : World} {c : Nat → Prop} (h : Keeps a b none_) : Keeps a b c := h.mono fun _ _ h => h.elim
theorem Keeps.drew {a w : World} {c : Nat → Prop} (h : Keeps a w c) : Keeps a w.drew c := ⟨h.os, h.tape, h.output, h.size, h.block⟩
theorem Keeps.drewN {a w : World} {c : Nat → Prop} (h : Keeps a w c) (n : Nat) : Keeps a (w.drewN n) c := ⟨h.os, h.tape, h.output, h.size, h.block⟩
theorem Keeps.alloc {a w : World} {c : Nat → Prop} (h : Keeps a w c) (o : Obj) : Keeps a (w.alloc o) c :=
  ⟨h.os, h.tape, h.output, by have := h.size; simp; omega, fun k hk hn => by
    rw [← h.block k hk hn]; exact RowKit.Below.heap_alloc _ _ _ (Nat.lt_of_lt_of_le hk h.size)⟩
theorem Keeps.setCell {a w : World} {c : Nat → Prop} (h : Keeps a w c) {p : Addr} (hp : c p.block ∨ a.heap.size ≤ p.block) (v : Value) : Keeps a (w.setCell p v) c :=
  ⟨h.os, h.tape, h.output, by have := h.size; simp; omega, fun k hk hn => by
    rw [← h.block k hk hn]
    exact RowKit.Below.heap_setCell _ _ _ _ (fun e => by rcases hp with hp | hp; exact hn (e ▸ hp); omega)⟩
theorem Keeps.below {w w' : World} (h : Keeps w w' none_) : RowKit.Below w.heap.size w w' := ⟨h.os, h.tape, h.output, h.size, fun k hk => h.block k hk id⟩
theorem Keeps.of_below {w w' : World} {c : Nat → Prop} (h : RowKit.Below w.heap.size w w') : Keeps w w' c := ⟨h.os, h.tape, h.output, h.size, fun k hk _ => h.block k hk⟩
theorem Keeps.cell {w w' : World} {c : Nat → Prop} (h : Keeps w w' c) {p : Addr} (hp : p.block < w.heap.size) (hc : ¬ c p.block) : w'.cell? p = w.cell? p := World.cell?_of_block (w := w) (h.block _ hp hc)
theorem Keeps.frozen {w w' : World} {c : Nat → Prop} (h : Keeps w w' c) {p : Addr} (hp : p.block < w.heap.size) (hc : ¬ c p.block) : w'.frozen? p = w.frozen? p := World.frozen?_of_block (w := w) (h.block _ hp hc)
theorem Keeps.shape {w w' : World} {c : Nat → Prop} (h : Keeps w w' c) {b : Nat} (hp : b < w.heap.size) (hc : ¬ c b) : w'.shape? b = w.shape? b := by
  unfold World.shape?; rw [h.block _ hp hc]

theorem shape_lt {w : World} {b : Nat} {x : TypeId × Nat} (h : w.shape? b = some x) : b < w.heap.size := by
  unfold World.shape? at h
  by_cases hb : b < w.heap.size
  · exact hb
  · rw [Array.getElem?_eq_none (by omega)] at h; cases h
theorem shape_alloc {w : World} {b : Nat} {x : TypeId × Nat} (h : w.shape? b = some x) (o : Obj) : (w.alloc o).shape? b = some x := by
  have := shape_lt h
  unfold World.shape? at *
  rw [RowKit.Below.heap_alloc _ _ _ this]; exact h
theorem shape_setCell {w : World} {b : Nat} (p : Addr) (v : Value) : (w.setCell p v).shape? b = w.shape? b := by
  unfold World.shape? World.setCell
  simp only [Array.getElem?_modify]
  by_cases h : p.block = b
  · rw [if_pos h]
    cases h : w.heap[b]? with
    | none => rfl
    | some o => cases o <;> simp <;> split <;> simp
  · rw [if_neg h]
theorem shape_new (w : World) (c : Array Value) (t : TypeId) (fr : Nat × Nat) : (w.alloc (.cells c t fr)).shape? w.heap.size = some (t, c.size) := by
  unfold World.shape?; rw [heap_alloc_new]
theorem cell_alloc {w : World} {p : Addr} {v : Value} (h : w.cell? p = some v) (o : Obj) : (w.alloc o).cell? p = some v := by
  have hb : p.block < w.heap.size := by
    unfold World.cell? at h
    by_cases hb : p.block < w.heap.size
    · exact hb
    · rw [Array.getElem?_eq_none (by omega)] at h; cases h
  rw [World.cell?_alloc_lt (h := hb)]; exact h
theorem cell_lt {w : World} {p : Addr} {v : Value} (h : w.cell? p = some v) : p.block < w.heap.size := by
    unfold World.cell? at h
    by_cases hb : p.block < w.heap.size
    · exact hb
    · rw [Array.getElem?_eq_none (by omega)] at h; cases h
theorem cell_set_ne {w : World} {p q : Addr} {u v : Value} (h : w.cell? q = some v) (hne : p ≠ q) : (w.setCell p u).cell? q = some v := by
  rw [World.cell?_setCell_other (h := hne)]; exact h
theorem cell_set_eq {w : World} {p : Addr} {u v : Value} (h : w.cell? p = some v) : (w.setCell p u).cell? p = some u := World.cell?_setCell_same w p u h
theorem frozen_alloc {w : World} {p : Addr} {b : Bool} (hb : p.block < w.heap.size) (h : w.frozen? p = b) (o : Obj) : (w.alloc o).frozen? p = b := by
  rw [World.frozen?_alloc_old (h := by omega)]; exact h

/-- A slice of int that reads as zs (nil, or a row of a block of ints). T: the type's number of the block's elements. -/
def Ints (T : TypeId) (w : World) (v : Value) (zs : List Int) : Prop :=
  (v = .slice none 0 0 ∧ zs = []) ∨
  ∃ kb ko cap n, v = .slice (some ⟨kb, ko, none⟩) zs.length cap ∧ w.shape? kb = some (T, n) ∧ zs.length ≤ 9223372036854775807 ∧
    ∀ i, i < zs.length → w.cell? ⟨kb, ko + i, none⟩ = some (.int .i64 (zs.getD i 0))
theorem Ints.keep {T : TypeId} {w w' : World} {c : Nat → Prop} {v : Value} {zs : List Int} (h : Ints T w v zs) (k : Keeps w w' c) (hc : ∀ b n, w.shape? b = some (T, n) → ¬ c b) : Ints T w' v zs := by
  rcases h with h | ⟨kb, ko, cap, n, rfl, hs, hl, hcell⟩
  · exact .inl h
  · exact .inr ⟨kb, ko, cap, n, rfl, by rw [k.shape (shape_lt hs) (hc _ _ hs)]; exact hs, hl, fun i hi => by rw [k.cell (shape_lt hs) (hc _ _ hs)]; exact hcell i hi⟩
end Go.Pw
