/- Helper text of this claim: Kit1: lemmas and contracts that the proved statement rests on; no conditions of its own. -/
import Derived.WalkKit
import Derived.Deep.QuietTactic
/-! Regions that draw their order: one walk in the order of the text serves every order, where a static check says that what is not ordered commutes. -/
namespace Go.Pw
set_option linter.unusedVariables false
open Go
set_option linter.unusedVariables false

/-- A run that, if it goes through, leaves the world alone and goes through alike in every world. -/
def CalmAt {α : Type} (P : Program) (e : Sem α) : Prop :=
  ∀ w n w', e.run P w = .ok n w' → w' = w ∧ ∀ w2, e.run P w2 = .ok n w2
def Never {α : Type} (P : Program) (e : Sem α) : Prop := ∀ w n w', e.run P w ≠ .ok n w'

theorem CalmAt.never {α : Type} {P : Program} {e : Sem α} (h : Never P e) : CalmAt P e := fun w n w' hr => absurd hr (h w n w')
theorem calm_pure {α : Type} (P : Program) (a : α) : CalmAt P (Pure.pure a : Sem α) := fun w n w' h => by
  simp only [Sem.run_pure, Result.ok.injEq] at h
  obtain ⟨rfl, rfl⟩ := h
  exact ⟨rfl, fun _ => rfl⟩
theorem calm_halt {α : Type} (P : Program) (h : Halt) : CalmAt P (Sem.halt h : Sem α) := fun w n w' hr => by simp at hr
theorem calm_stuck {α : Type} (P : Program) (s : String) : CalmAt P (stuck s : Sem α) := calm_halt P _
theorem calm_unsupported {α : Type} (P : Program) (s : Unsupported) : CalmAt P (unsupported s : Sem α) := calm_halt P _
theorem calm_program (P : Program) : CalmAt P program := fun w n w' h => by
  simp only [run_program, Result.ok.injEq] at h
  obtain ⟨rfl, rfl⟩ := h
  exact ⟨rfl, fun _ => rfl⟩
theorem run_bind_ok {α β : Type} {P : Program} {e : Sem α} {f : α → Sem β} {w w' : World} {b : β} (h : (e >>= f).run P w = .ok b w') :
    ∃ a w1, e.run P w = .ok a w1 ∧ (f a).run P w1 = .ok b w' := by
  rw [Sem.run_bind] at h
  cases he : e.run P w with
  | ok a w1 => rw [he] at h; exact ⟨a, w1, rfl, h⟩
  | halt x w1 => rw [he] at h; simp at h
theorem calm_bind {α β : Type} {P : Program} {e : Sem α} {f : α → Sem β} (he : CalmAt P e) (hf : ∀ a, CalmAt P (f a)) : CalmAt P (e >>= f) := fun w n w' h => by
  obtain ⟨a, w1, h1, h2⟩ := run_bind_ok h
  obtain ⟨rfl, k1⟩ := he _ _ _ h1
  obtain ⟨rfl, k2⟩ := hf a _ _ _ h2
  exact ⟨rfl, fun w2 => by rw [Sem.run_bind, k1 w2]; exact k2 w2⟩
theorem never_bind_r {α β : Type} {P : Program} {e : Sem α} {f : α → Sem β} (hf : ∀ a, Never P (f a)) : Never P (e >>= f) := fun w n w' h => by
  obtain ⟨a, w1, _, h2⟩ := run_bind_ok h; exact hf _ _ _ _ h2
theorem never_halt {α : Type} (P : Program) (h : Halt) : Never P (Sem.halt h : Sem α) := fun w n w' hr => by simp at hr
theorem never_runtimePanic {α : Type} (P : Program) (e : RuntimeError) : Never P (runtimePanic e : Sem α) := by
  unfold runtimePanic
  refine never_bind_r fun p => ?_
  cases e <;> first
    | exact never_halt P _
    | exact never_bind_r fun _ => never_bind_r fun _ => never_halt P _
theorem never_boundsPanic {α : Type} (P : Program) (k : IntKind) (x y : Int) (c : BoundsCode) : Never P (boundsPanic k x y c : Sem α) := by
  unfold boundsPanic
  dsimp only
  split
  · exact never_bind_r fun _ => never_runtimePanic P _
  · exact never_bind_r fun _ => never_runtimePanic P _
theorem calm_map {α β : Type} {P : Program} {e : Sem α} {f : α → β} (he : CalmAt P e) : CalmAt P (f <$> e) := fun w n w' h => by
  simp only [Sem.run_map] at h
  cases h1 : e.run P w with
  | ok a w1 =>
    rw [h1] at h
    simp only [Result.andThen_ok, Result.ok.injEq] at h
    obtain ⟨rfl, rfl⟩ := h
    obtain ⟨rfl, k⟩ := he _ _ _ h1
    exact ⟨rfl, fun w2 => by simp [k w2]⟩
  | halt x w1 => rw [h1] at h; simp at h
theorem calm_typeInfo (P : Program) (t : TypeId) : CalmAt P (typeInfo t) := by
  unfold typeInfo; refine calm_bind (calm_program P) fun p => ?_; split
  · exact calm_pure P _
  · exact calm_stuck P _
theorem calm_underlying (P : Program) (t : TypeId) : CalmAt P (underlying t) := by
  unfold underlying; refine calm_bind (calm_program P) fun p => ?_; split
  · exact calm_pure P _
  · exact calm_stuck P _
theorem calm_sizeOf (P : Program) (t : TypeId) : CalmAt P (sizeOf t) := by
  unfold sizeOf; exact calm_bind (calm_typeInfo P t) fun _ => calm_pure P _
theorem calm_isAgg (P : Program) (t : TypeId) : CalmAt P (isAgg t) := by
  unfold isAgg; refine calm_bind (calm_underlying P t) fun d => ?_; split <;> exact calm_pure P _
theorem calm_part (P : Program) (t : TypeId) (cs : Array Value) (off : Nat) : CalmAt P (part t cs off) := by
  unfold part
  refine calm_bind (calm_isAgg P t) fun b => ?_
  split
  · exact calm_bind (calm_sizeOf P t) fun _ => calm_pure P _
  · split
    · exact calm_pure P _
    · exact calm_stuck P _
theorem calm_asIntOf (P : Program) (v : Value) : CalmAt P (asIntOf v) := by
  unfold asIntOf; split
  · exact calm_pure P _
  · exact calm_unsupported P _
  · exact calm_stuck P _
theorem calm_asBool (P : Program) (v : Value) : CalmAt P (asBool v) := by
  unfold asBool; split
  · exact calm_pure P _
  · exact calm_stuck P _
theorem calm_asAgg (P : Program) (v : Value) : CalmAt P (asAgg v) := by
  unfold asAgg; split
  · exact calm_pure P _
  · exact calm_stuck P _
theorem calm_sureAddr (P : Program) (v : Value) : CalmAt P (Instr.sureAddr v) := by
  unfold Instr.sureAddr; split
  · exact calm_pure P _
  · exact calm_stuck P _
theorem calm_asAddr (P : Program) (v : Value) : CalmAt P (asAddr v) := by
  unfold asAddr; split
  · exact calm_pure P _
  · exact .never (never_runtimePanic P _)
  · exact calm_stuck P _

/-- The field has cells of its own. -/
def fieldSized (P : Program) (s f : Nat) : Bool :=
  match P.underlying s with
  | some (.struct fields) => (match fields[f]? with | some fd => (match P.info? fd.type with | some i => i.size != 0 | none => false) | none => false)
  | _ => false
theorem underlying_ok {P : Program} {t : TypeId} {d : TypeDesc} {w w' : World} (h : (underlying t).run P w = .ok d w') : P.underlying t = some d := by
  unfold underlying at h
  rw [Sem.run_bind] at h
  simp only [run_program, Result.andThen_ok] at h
  split at h
  · rename_i d' hd; simp only [Sem.run_pure, Result.ok.injEq] at h; rw [hd, h.1]
  · simp at h
theorem sizeOf_ok {P : Program} {t : TypeId} {n : Nat} {w w' : World} (h : (sizeOf t).run P w = .ok n w') : ∃ i, P.info? t = some i ∧ i.size = n := by
  unfold sizeOf at h
  obtain ⟨i, w1, h1, h2⟩ := run_bind_ok h
  simp only [Sem.run_pure, Result.ok.injEq] at h2
  unfold typeInfo at h1
  rw [Sem.run_bind] at h1
  simp only [run_program, Result.andThen_ok] at h1
  split at h1
  · rename_i i' hi; simp only [Sem.run_pure, Result.ok.injEq] at h1; exact ⟨i', hi, by rw [h1.1]; exact h2.1⟩
  · simp at h1
/-- Calm once what has come out before is known. -/
theorem calm_bind' {α β : Type} {P : Program} {e : Sem α} {f : α → Sem β} (he : CalmAt P e) (hf : ∀ a w w', e.run P w = .ok a w' → CalmAt P (f a)) : CalmAt P (e >>= f) := fun w n w' h => by
  obtain ⟨a, w1, h1, h2⟩ := run_bind_ok h
  obtain ⟨rfl, k1⟩ := he _ _ _ h1
  obtain ⟨rfl, k2⟩ := hf a _ _ h1 _ _ _ h2
  exact ⟨rfl, fun w2 => by rw [Sem.run_bind, k1 w2]; exact k2 w2⟩
theorem calm_fieldAt {P : Program} {s : TypeId} {f : Nat} (hz : fieldSized P s f = true) (v : Value) : CalmAt P (Instr.fieldAt s v f) := by
  unfold Instr.fieldAt
  refine calm_bind' (calm_underlying P s) fun d w w' hd => ?_
  have hu := underlying_ok hd
  split
  · rename_i fields
    split
    · rename_i fd hf
      refine calm_bind (calm_sureAddr P v) fun a => ?_
      refine calm_bind ?_ fun _ => calm_pure P _
      unfold fieldPlace
      refine calm_bind' (calm_sizeOf P _) fun n w w' hn => ?_
      obtain ⟨i, hi, hin⟩ := sizeOf_ok hn
      split
      · rename_i h0
        simp [fieldSized, hu, hf, hi, hin, h0] at hz
      · exact calm_pure P _
    · exact calm_stuck P _
  · exact calm_stuck P _
theorem calm_ite {α : Type} {P : Program} {c : Prop} [Decidable c] {x y : Sem α} (hx : CalmAt P x) (hy : CalmAt P y) : CalmAt P (if c then x else y) := by
  split
  · exact hx
  · exact hy
theorem calm_bounds {α : Type} (P : Program) (k : IntKind) (x y : Int) (c : BoundsCode) : CalmAt P (boundsPanic k x y c : Sem α) := .never (never_boundsPanic P k x y c)
theorem calm_rt {α : Type} (P : Program) (e : RuntimeError) : CalmAt P (runtimePanic e : Sem α) := .never (never_runtimePanic P e)
theorem calm_indexAt (P : Program) (t : TypeId) (x ix : Value) : CalmAt P (Instr.indexAt t x ix) := by
  unfold Instr.indexAt
  repeat' (first | with_reducible exact calm_pure P _ | with_reducible exact calm_stuck P _ | with_reducible exact calm_unsupported P _ | with_reducible exact calm_halt P _ | with_reducible exact calm_bounds P _ _ _ _ | with_reducible exact calm_rt P _ | with_reducible exact calm_asIntOf P _ | with_reducible exact calm_asBool P _ | with_reducible exact calm_asAgg P _ | with_reducible exact calm_underlying P _ | with_reducible exact calm_sureAddr P _ | with_reducible exact calm_asAddr P _ | with_reducible exact calm_sizeOf P _ | with_reducible exact calm_part P _ _ _ | with_reducible refine calm_bind ?_ (fun _ => ?_) | with_reducible refine calm_ite ?_ ?_ | split | dsimp only)
theorem calm_index (P : Program) (t : TypeId) (x ix : Value) : CalmAt P (Instr.index t x ix) := by
  unfold Instr.index
  repeat' (first | with_reducible exact calm_pure P _ | with_reducible exact calm_stuck P _ | with_reducible exact calm_unsupported P _ | with_reducible exact calm_halt P _ | with_reducible exact calm_bounds P _ _ _ _ | with_reducible exact calm_rt P _ | with_reducible exact calm_asIntOf P _ | with_reducible exact calm_asBool P _ | with_reducible exact calm_asAgg P _ | with_reducible exact calm_underlying P _ | with_reducible exact calm_sureAddr P _ | with_reducible exact calm_asAddr P _ | with_reducible exact calm_sizeOf P _ | with_reducible exact calm_part P _ _ _ | with_reducible refine calm_bind ?_ (fun _ => ?_) | with_reducible refine calm_ite ?_ ?_ | split | dsimp only)
theorem calm_field (P : Program) (t : TypeId) (x : Value) (f : Nat) : CalmAt P (Instr.field t x f) := by
  unfold Instr.field
  repeat' (first | with_reducible exact calm_pure P _ | with_reducible exact calm_stuck P _ | with_reducible exact calm_unsupported P _ | with_reducible exact calm_halt P _ | with_reducible exact calm_bounds P _ _ _ _ | with_reducible exact calm_rt P _ | with_reducible exact calm_asIntOf P _ | with_reducible exact calm_asBool P _ | with_reducible exact calm_asAgg P _ | with_reducible exact calm_underlying P _ | with_reducible exact calm_sureAddr P _ | with_reducible exact calm_asAddr P _ | with_reducible exact calm_sizeOf P _ | with_reducible exact calm_part P _ _ _ | with_reducible refine calm_bind ?_ (fun _ => ?_) | with_reducible refine calm_ite ?_ ?_ | split | dsimp only)
theorem calm_extract (P : Program) (x : Value) (i : Nat) : CalmAt P (Instr.extract x i) := by
  unfold Instr.extract
  repeat' (first | with_reducible exact calm_pure P _ | with_reducible exact calm_stuck P _ | with_reducible exact calm_unsupported P _ | with_reducible exact calm_halt P _ | with_reducible exact calm_bounds P _ _ _ _ | with_reducible exact calm_rt P _ | with_reducible exact calm_asIntOf P _ | with_reducible exact calm_asBool P _ | with_reducible exact calm_asAgg P _ | with_reducible exact calm_underlying P _ | with_reducible exact calm_sureAddr P _ | with_reducible exact calm_asAddr P _ | with_reducible exact calm_sizeOf P _ | with_reducible exact calm_part P _ _ _ | with_reducible refine calm_bind ?_ (fun _ => ?_) | with_reducible refine calm_ite ?_ ?_ | split | dsimp only)
theorem calm_makeInterface (P : Program) (t : TypeId) (x : Value) : CalmAt P (Instr.makeInterface t x) := by
  unfold Instr.makeInterface
  repeat' (first | with_reducible exact calm_pure P _ | with_reducible exact calm_stuck P _ | with_reducible exact calm_unsupported P _ | with_reducible exact calm_halt P _ | with_reducible exact calm_bounds P _ _ _ _ | with_reducible exact calm_rt P _ | with_reducible exact calm_asIntOf P _ | with_reducible exact calm_asBool P _ | with_reducible exact calm_asAgg P _ | with_reducible exact calm_underlying P _ | with_reducible exact calm_sureAddr P _ | with_reducible exact calm_asAddr P _ | with_reducible exact calm_sizeOf P _ | with_reducible exact calm_part P _ _ _ | with_reducible refine calm_bind ?_ (fun _ => ?_) | with_reducible refine calm_ite ?_ ?_ | split | dsimp only)
theorem calm_sliceBound (P : Program) (x : Value) (y : Nat) (c : BoundsCode) : CalmAt P (Instr.sliceBound x y c) := by
  unfold Instr.sliceBound
  repeat' (first | with_reducible exact calm_pure P _ | with_reducible exact calm_stuck P _ | with_reducible exact calm_unsupported P _ | with_reducible exact calm_halt P _ | with_reducible exact calm_bounds P _ _ _ _ | with_reducible exact calm_rt P _ | with_reducible exact calm_asIntOf P _ | with_reducible exact calm_asBool P _ | with_reducible exact calm_asAgg P _ | with_reducible exact calm_underlying P _ | with_reducible exact calm_sureAddr P _ | with_reducible exact calm_asAddr P _ | with_reducible exact calm_sizeOf P _ | with_reducible exact calm_part P _ _ _ | with_reducible refine calm_bind ?_ (fun _ => ?_) | with_reducible refine calm_ite ?_ ?_ | split | dsimp only)
theorem calm_sliceBounds (P : Program) (b : Bool) (len cap : Nat) (lo hi mx : Option Value) : CalmAt P (Instr.sliceBounds b len cap lo hi mx) := by
  unfold Instr.sliceBounds
  repeat' (first | with_reducible exact calm_pure P _ | with_reducible exact calm_stuck P _ | with_reducible exact calm_unsupported P _ | with_reducible exact calm_halt P _ | with_reducible exact calm_bounds P _ _ _ _ | with_reducible exact calm_rt P _ | with_reducible exact calm_asIntOf P _ | with_reducible exact calm_asBool P _ | with_reducible exact calm_asAgg P _ | with_reducible exact calm_underlying P _ | with_reducible exact calm_sureAddr P _ | with_reducible exact calm_asAddr P _ | with_reducible exact calm_sizeOf P _ | with_reducible exact calm_sliceBound P _ _ _ | with_reducible exact calm_part P _ _ _ | with_reducible refine calm_bind ?_ (fun _ => ?_) | with_reducible refine calm_ite ?_ ?_ | split | dsimp only)
theorem calm_slice (P : Program) (t : TypeId) (x : Value) (lo hi mx : Option Value) : CalmAt P (Instr.slice t x lo hi mx) := by
  unfold Instr.slice
  repeat' (first | with_reducible exact calm_pure P _ | with_reducible exact calm_stuck P _ | with_reducible exact calm_unsupported P _ | with_reducible exact calm_halt P _ | with_reducible exact calm_bounds P _ _ _ _ | with_reducible exact calm_rt P _ | with_reducible exact calm_asIntOf P _ | with_reducible exact calm_asBool P _ | with_reducible exact calm_asAgg P _ | with_reducible exact calm_underlying P _ | with_reducible exact calm_sureAddr P _ | with_reducible exact calm_asAddr P _ | with_reducible exact calm_sizeOf P _ | with_reducible exact calm_sliceBounds P _ _ _ _ _ _ | with_reducible exact calm_part P _ _ _ | with_reducible refine calm_bind ?_ (fun _ => ?_) | with_reducible refine calm_ite ?_ ?_ | split | dsimp only)
theorem calm_sliceAt (P : Program) (t : TypeId) (x : Value) (lo hi mx : Option Value) : CalmAt P (Instr.sliceAt t x lo hi mx) := by
  unfold Instr.sliceAt
  repeat' (first | with_reducible exact calm_pure P _ | with_reducible exact calm_stuck P _ | with_reducible exact calm_unsupported P _ | with_reducible exact calm_halt P _ | with_reducible exact calm_bounds P _ _ _ _ | with_reducible exact calm_rt P _ | with_reducible exact calm_asIntOf P _ | with_reducible exact calm_asBool P _ | with_reducible exact calm_asAgg P _ | with_reducible exact calm_underlying P _ | with_reducible exact calm_sureAddr P _ | with_reducible exact calm_asAddr P _ | with_reducible exact calm_sizeOf P _ | with_reducible exact calm_sliceBounds P _ _ _ _ _ _ | with_reducible exact calm_slice P _ _ _ _ _ | with_reducible exact calm_part P _ _ _ | with_reducible refine calm_bind ?_ (fun _ => ?_) | with_reducible refine calm_ite ?_ ?_ | split | dsimp only)
theorem calm_stringOp (P : Program) (op : BinOp) (a b : ByteArray) : CalmAt P (Op.stringOp op a b) := by
  unfold Op.stringOp
  repeat' (first | with_reducible exact calm_pure P _ | with_reducible exact calm_stuck P _ | with_reducible exact calm_unsupported P _ | with_reducible exact calm_halt P _ | with_reducible exact calm_bounds P _ _ _ _ | with_reducible exact calm_rt P _ | with_reducible exact calm_asIntOf P _ | with_reducible exact calm_asBool P _ | with_reducible exact calm_asAgg P _ | with_reducible exact calm_underlying P _ | with_reducible exact calm_sureAddr P _ | with_reducible exact calm_asAddr P _ | with_reducible exact calm_sizeOf P _ | with_reducible exact calm_part P _ _ _ | with_reducible refine calm_bind ?_ (fun _ => ?_) | with_reducible refine calm_ite ?_ ?_ | split | dsimp only)
theorem calm_intArith (P : Program) (op : BinOp) (k : IntKind) (a b : Int) : CalmAt P (Op.intArith op k a b) := by
  unfold Op.intArith
  repeat' (first | with_reducible exact calm_pure P _ | with_reducible exact calm_stuck P _ | with_reducible exact calm_unsupported P _ | with_reducible exact calm_halt P _ | with_reducible exact calm_bounds P _ _ _ _ | with_reducible exact calm_rt P _ | with_reducible exact calm_asIntOf P _ | with_reducible exact calm_asBool P _ | with_reducible exact calm_asAgg P _ | with_reducible exact calm_underlying P _ | with_reducible exact calm_sureAddr P _ | with_reducible exact calm_asAddr P _ | with_reducible exact calm_sizeOf P _ | with_reducible exact calm_part P _ _ _ | with_reducible refine calm_bind ?_ (fun _ => ?_) | with_reducible refine calm_ite ?_ ?_ | split | dsimp only)
theorem calm_intBits (P : Program) (op : BinOp) (k : IntKind) (a b : Int) : CalmAt P (Op.intBits op k a b) := by
  unfold Op.intBits
  repeat' (first | with_reducible exact calm_pure P _ | with_reducible exact calm_stuck P _ | with_reducible exact calm_unsupported P _ | with_reducible exact calm_halt P _ | with_reducible exact calm_bounds P _ _ _ _ | with_reducible exact calm_rt P _ | with_reducible exact calm_asIntOf P _ | with_reducible exact calm_asBool P _ | with_reducible exact calm_asAgg P _ | with_reducible exact calm_underlying P _ | with_reducible exact calm_sureAddr P _ | with_reducible exact calm_asAddr P _ | with_reducible exact calm_sizeOf P _ | with_reducible exact calm_part P _ _ _ | with_reducible refine calm_bind ?_ (fun _ => ?_) | with_reducible refine calm_ite ?_ ?_ | split | dsimp only)
theorem calm_shift (P : Program) (op : BinOp) (k k' : IntKind) (a b : Int) : CalmAt P (Op.shift op k a k' b) := by
  unfold Op.shift
  repeat' (first | with_reducible exact calm_pure P _ | with_reducible exact calm_stuck P _ | with_reducible exact calm_unsupported P _ | with_reducible exact calm_halt P _ | with_reducible exact calm_bounds P _ _ _ _ | with_reducible exact calm_rt P _ | with_reducible exact calm_asIntOf P _ | with_reducible exact calm_asBool P _ | with_reducible exact calm_asAgg P _ | with_reducible exact calm_underlying P _ | with_reducible exact calm_sureAddr P _ | with_reducible exact calm_asAddr P _ | with_reducible exact calm_sizeOf P _ | with_reducible exact calm_intArith P _ _ _ _ | with_reducible exact calm_intBits P _ _ _ _ | with_reducible exact calm_part P _ _ _ | with_reducible refine calm_bind ?_ (fun _ => ?_) | with_reducible refine calm_ite ?_ ?_ | split | dsimp only)
theorem calm_intDiv (P : Program) (op : BinOp) (k : IntKind) (a b : Int) : CalmAt P (Op.intDiv op k a b) := by
  unfold Op.intDiv
  repeat' (first | with_reducible exact calm_pure P _ | with_reducible exact calm_stuck P _ | with_reducible exact calm_unsupported P _ | with_reducible exact calm_halt P _ | with_reducible exact calm_bounds P _ _ _ _ | with_reducible exact calm_rt P _ | with_reducible exact calm_asIntOf P _ | with_reducible exact calm_asBool P _ | with_reducible exact calm_asAgg P _ | with_reducible exact calm_underlying P _ | with_reducible exact calm_sureAddr P _ | with_reducible exact calm_asAddr P _ | with_reducible exact calm_sizeOf P _ | with_reducible exact calm_intArith P _ _ _ _ | with_reducible exact calm_intBits P _ _ _ _ | with_reducible exact calm_part P _ _ _ | with_reducible refine calm_bind ?_ (fun _ => ?_) | with_reducible refine calm_ite ?_ ?_ | split | dsimp only)
theorem calm_intCmp (P : Program) (op : BinOp) (a b : Int) : CalmAt P (Op.intCmp op a b) := by
  unfold Op.intCmp
  repeat' (first | with_reducible exact calm_pure P _ | with_reducible exact calm_stuck P _ | with_reducible exact calm_unsupported P _ | with_reducible exact calm_halt P _ | with_reducible exact calm_bounds P _ _ _ _ | with_reducible exact calm_rt P _ | with_reducible exact calm_asIntOf P _ | with_reducible exact calm_asBool P _ | with_reducible exact calm_asAgg P _ | with_reducible exact calm_underlying P _ | with_reducible exact calm_sureAddr P _ | with_reducible exact calm_asAddr P _ | with_reducible exact calm_sizeOf P _ | with_reducible exact calm_intArith P _ _ _ _ | with_reducible exact calm_intBits P _ _ _ _ | with_reducible exact calm_part P _ _ _ | with_reducible refine calm_bind ?_ (fun _ => ?_) | with_reducible refine calm_ite ?_ ?_ | split | dsimp only)
theorem calm_binInt (P : Program) (op : BinOp) (t : TypeId) (k k' : IntKind) (a b : Int) : CalmAt P (binOp op t (.int k a) (.int k' b)) := by
  cases op
  case shl => exact (calm_shift P .shl k k' a b : CalmAt P (Op.shift .shl k a k' b))
  case shr => exact (calm_shift P .shr k k' a b : CalmAt P (Op.shift .shr k a k' b))
  case add => exact calm_ite (calm_stuck P _) (calm_intArith P _ _ _ _)
  case sub => exact calm_ite (calm_stuck P _) (calm_intArith P _ _ _ _)
  case mul => exact calm_ite (calm_stuck P _) (calm_intArith P _ _ _ _)
  case quo => exact calm_ite (calm_stuck P _) (calm_intDiv P _ _ _ _)
  case rem => exact calm_ite (calm_stuck P _) (calm_intDiv P _ _ _ _)
  case and => exact calm_ite (calm_stuck P _) (calm_intBits P _ _ _ _)
  case or => exact calm_ite (calm_stuck P _) (calm_intBits P _ _ _ _)
  case xor => exact calm_ite (calm_stuck P _) (calm_intBits P _ _ _ _)
  case andNot => exact calm_ite (calm_stuck P _) (calm_intBits P _ _ _ _)
  all_goals exact calm_ite (calm_stuck P _) (calm_intCmp P _ _ _)
theorem calm_binString (P : Program) (op : BinOp) (t : TypeId) (a b : ByteArray) : CalmAt P (binOp op t (.string a) (.string b)) := by
  have h : binOp op t (.string a) (.string b) = Op.stringOp op a b := by cases op <;> rfl
  rw [h]; exact calm_stringOp P op a b
theorem calm_equalBool (P : Program) (t : TypeId) (a b : Bool) : CalmAt P (Op.equal t (.bool a) (.bool b)) := by
  unfold Op.equal Op.maxDepth
  have h : Op.equalIn 10000 t (.bool a) (.bool b) = (do
      match ← underlying t with
      | .bool => pure (a == b)
      | _ => stuck "==: the operands do not fit the type, or the type is not comparable") := by
    show (underlying t >>= fun d => _) = (underlying t >>= fun d => _)
    congr 1
    funext d
    cases d <;> rfl
  rw [h]
  repeat' (first | with_reducible exact calm_pure P _ | with_reducible exact calm_stuck P _ | with_reducible exact calm_unsupported P _ | with_reducible exact calm_halt P _ | with_reducible exact calm_bounds P _ _ _ _ | with_reducible exact calm_rt P _ | with_reducible exact calm_asIntOf P _ | with_reducible exact calm_asBool P _ | with_reducible exact calm_asAgg P _ | with_reducible exact calm_underlying P _ | with_reducible exact calm_sureAddr P _ | with_reducible exact calm_asAddr P _ | with_reducible exact calm_sizeOf P _ | with_reducible exact calm_intArith P _ _ _ _ | with_reducible exact calm_intBits P _ _ _ _ | with_reducible exact calm_part P _ _ _ | with_reducible refine calm_bind ?_ (fun _ => ?_) | with_reducible refine calm_ite ?_ ?_ | split | dsimp only)
theorem calm_binBool (P : Program) (op : BinOp) (t : TypeId) (a b : Bool) : CalmAt P (binOp op t (.bool a) (.bool b)) := by
  cases op
  case eql => exact calm_bind (calm_equalBool P t a b) fun _ => calm_pure P _
  case neq => exact calm_bind (calm_equalBool P t a b) fun _ => calm_pure P _
  all_goals exact calm_stuck P _
theorem calm_unary (P : Program) (op : UnOp) (x : Value) : CalmAt P (Op.unary op x) := by
  unfold Op.unary
  repeat' (first | with_reducible exact calm_pure P _ | with_reducible exact calm_stuck P _ | with_reducible exact calm_unsupported P _ | with_reducible exact calm_halt P _ | with_reducible exact calm_bounds P _ _ _ _ | with_reducible exact calm_rt P _ | with_reducible exact calm_asIntOf P _ | with_reducible exact calm_asBool P _ | with_reducible exact calm_asAgg P _ | with_reducible exact calm_underlying P _ | with_reducible exact calm_sureAddr P _ | with_reducible exact calm_asAddr P _ | with_reducible exact calm_sizeOf P _ | with_reducible exact calm_intArith P _ _ _ _ | with_reducible exact calm_intBits P _ _ _ _ | with_reducible exact calm_part P _ _ _ | with_reducible refine calm_bind ?_ (fun _ => ?_) | with_reducible refine calm_ite ?_ ?_ | split | dsimp only)
theorem calm_unsafeInt (P : Program) (s d : TypeId) (k : IntKind) (n : Int) : CalmAt P (Conv.unsafePointer s d (.int k n)) := by
  unfold Conv.unsafePointer
  refine calm_bind (calm_underlying P s) fun ds => ?_
  refine calm_bind (calm_underlying P d) fun dd => ?_
  cases ds <;> cases dd <;> first | exact calm_stuck P _ | (dsimp only; split <;> first | contradiction | exact calm_unsupported P _ | exact calm_stuck P _)
theorem calm_convertInt (P : Program) (s d : TypeId) (k : IntKind) (n : Int) : CalmAt P (convert s d (.int k n)) := by
  unfold convert
  refine calm_bind (calm_underlying P s) fun ds => ?_
  refine calm_bind (calm_underlying P d) fun dd => ?_
  cases ds <;> cases dd <;> first | exact calm_pure P _ | exact calm_unsupported P _ | exact calm_stuck P _ | exact calm_unsafeInt P s d k n
theorem calm_len (P : Program) (ats : Array TypeId) (t : TypeId) (x : Value) (hx : (match x with | .string _ | .slice .. => true | _ => false) = true) :
    CalmAt P (Builtin.len_ ats t #[x]) := by
  unfold Builtin.len_
  cases hu : ats[0]? with
  | none => exact calm_stuck P _
  | some u =>
    refine calm_bind (calm_underlying P u) fun d => ?_
    cases x <;> simp only [Bool.false_eq_true] at hx <;> cases d <;> first | exact calm_pure P _ | exact calm_stuck P _ | (refine calm_bind (calm_underlying P _) fun d' => ?_; cases d' <;> first | exact calm_pure P _ | exact calm_stuck P _)
theorem calm_zeroValue (P : Program) (t : TypeId) : CalmAt P (zeroValue t) := by
  unfold zeroValue; refine calm_bind (calm_typeInfo P t) fun i => ?_; split
  · exact calm_pure P _
  · exact calm_unsupported P _
theorem calm_listMapM {α β : Type} {P : Program} (f : α → Sem β) (hf : ∀ a, CalmAt P (f a)) : ∀ (l : List α), CalmAt P (l.mapM f)
  | [] => by rw [List.mapM_nil]; exact calm_pure P _
  | a :: l => by rw [List.mapM_cons]; exact calm_bind (hf a) fun _ => calm_bind (calm_listMapM f hf l) fun _ => calm_pure P _
theorem calm_mapM {α β : Type} {P : Program} (f : α → Sem β) (hf : ∀ a, CalmAt P (f a)) (as : Array α) : CalmAt P (as.mapM f) := by
  rw [Array.mapM_eq_mapM_toList]; exact calm_map (calm_listMapM f hf _)
theorem calm_build (P : Program) (t : TypeId) (parts : Array (Nat × Value)) : CalmAt P (Instr.build t parts) := by
  unfold Instr.build
  refine calm_bind (calm_zeroValue P t) fun z => ?_
  refine calm_bind (calm_underlying P t) fun d => ?_
  split
  · refine calm_bind (calm_mapM _ (fun f => calm_bind (calm_sizeOf P _) fun _ => calm_pure P _) _) fun _ => ?_
    split
    · exact calm_pure P _
    · exact calm_stuck P _
  · refine calm_bind (calm_sizeOf P _) fun _ => ?_
    split
    · exact calm_pure P _
    · exact calm_stuck P _
  · exact calm_stuck P _
inductive OpKind where
  | pure | read | other
  deriving DecidableEq

theorem calm_forIn {α β : Type} {P : Program} (f : α → β → Sem (ForInStep β)) (h : ∀ a b, CalmAt P (f a b)) : ∀ (l : List α) (b : β), CalmAt P (forIn l b f)
  | [], b => by rw [List.forIn_nil]; exact calm_pure P _
  | a :: l, b => by
    rw [List.forIn_cons]
    refine calm_bind (h a b) fun s => ?_
    cases s with
    | done b => exact calm_pure P _
    | yield b => exact calm_forIn f h l b
def intsB (a : Array Value) : Bool := a.toList.all fun v => match v with | .int .. => true | _ => false
/-- A number, or numbers. -/
def Ints_ (v : Value) : Prop := (∃ k n, v = .int k n) ∨ ∃ cs, v = .agg cs ∧ intsB cs = true
theorem ints_part {P : Program} {t : TypeId} {cs : Array Value} {off : Nat} {w w' : World} {v : Value} (hc : intsB cs = true) (h : (part t cs off).run P w = .ok v w') : Ints_ v := by
  unfold part at h
  obtain ⟨b, w1, h1, h2⟩ := run_bind_ok h
  split at h2
  · obtain ⟨n, w2, h3, h4⟩ := run_bind_ok h2
    simp only [Sem.run_pure, Result.ok.injEq] at h4
    obtain ⟨rfl, rfl⟩ := h4
    refine .inr ⟨_, rfl, ?_⟩
    unfold intsB at hc ⊢
    rw [List.all_eq_true] at hc ⊢
    intro x hx
    refine hc x ?_
    rw [Array.toList_extract] at hx
    exact List.mem_of_mem_drop (List.mem_of_mem_take (by simpa [List.extract] using hx))
  · split at h2
    · rename_i u hu
      simp only [Sem.run_pure, Result.ok.injEq] at h2
      obtain ⟨rfl, rfl⟩ := h2
      unfold intsB at hc
      rw [List.all_eq_true] at hc
      have := hc u (by
        obtain ⟨hi, e⟩ := Array.getElem?_eq_some_iff.1 hu
        rw [← e]; exact Array.getElem_mem_toList hi)
      cases u <;> first | exact .inl ⟨_, _, rfl⟩ | cases this
    · simp at h2
theorem calm_equalIn {P : Program} : ∀ (d : Nat) (t : TypeId) (x y : Value), Ints_ x → Ints_ y → CalmAt P (Op.equalIn d t x y)
  | 0, t, x, y, _, _ => by unfold Op.equalIn; exact calm_unsupported P _
  | d + 1, t, x, y, hx, hy => by
    unfold Op.equalIn
    refine calm_bind (calm_underlying P t) fun u => ?_
    rcases hx with ⟨k, n, rfl⟩ | ⟨xs, rfl, hxs⟩ <;> rcases hy with ⟨k', n', rfl⟩ | ⟨ys, rfl, hys⟩ <;> cases u <;> try exact calm_stuck P _
    · exact calm_ite (calm_pure P _) (calm_stuck P _)
    · dsimp only
      refine calm_bind (calm_sizeOf P _) fun n => ?_
      refine calm_bind ?_ fun s => ?_
      · rw [Std.Legacy.Range.forIn_eq_forIn_range']
        refine calm_forIn _ (fun i s => ?_) _ _
        refine calm_bind' (calm_part P _ _ _) fun a w w' ha => ?_
        refine calm_bind' (calm_part P _ _ _) fun b w w' hb => ?_
        refine calm_bind (calm_equalIn d _ a b (ints_part hxs ha) (ints_part hys hb)) fun c => ?_
        exact calm_ite (calm_pure P _) (calm_pure P _)
      · split
        · exact calm_pure P _
        · exact calm_pure P _
    · dsimp only
      refine calm_bind (calm_program P) fun p => calm_ite (calm_bind (calm_unsupported P _) fun _ => ?_) ?_
      all_goals
        refine calm_bind ?_ fun s => ?_
        · rw [← Array.forIn_toList]
          refine calm_forIn _ (fun f s => ?_) _ _
          refine calm_ite ?_ (calm_pure P _)
          refine calm_bind' (calm_part P _ _ _) fun a w w' ha => ?_
          refine calm_bind' (calm_part P _ _ _) fun b w w' hb => ?_
          refine calm_bind (calm_equalIn d _ a b (ints_part hxs ha) (ints_part hys hb)) fun c => ?_
          exact calm_ite (calm_pure P _) (calm_pure P _)
        · split
          · exact calm_pure P _
          · exact calm_pure P _
theorem calm_eqGuardIn {P : Program} : ∀ (d : Nat) (t : TypeId) (x y : Value), Ints_ x → Ints_ y → CalmAt P (Op.eqGuardIn d t x y)
  | 0, t, x, y, _, _ => by unfold Op.eqGuardIn; exact calm_unsupported P _
  | d + 1, t, x, y, hx, hy => by
    unfold Op.eqGuardIn
    refine calm_bind (calm_underlying P t) fun u => ?_
    rcases hx with ⟨k, n, rfl⟩ | ⟨xs, rfl, hxs⟩ <;> rcases hy with ⟨k', n', rfl⟩ | ⟨ys, rfl, hys⟩ <;> cases u <;> try exact calm_pure P _
    · dsimp only
      refine calm_bind (calm_sizeOf P _) fun n => ?_
      refine calm_bind ?_ fun s => ?_
      · rw [Std.Legacy.Range.forIn_eq_forIn_range']
        refine calm_forIn _ (fun i s => ?_) _ _
        refine calm_bind' (calm_part P _ _ _) fun a w w' ha => ?_
        refine calm_bind' (calm_part P _ _ _) fun b w w' hb => ?_
        refine calm_bind (calm_eqGuardIn d _ a b (ints_part hxs ha) (ints_part hys hb)) fun c => ?_
        exact calm_ite (calm_pure P _) (calm_pure P _)
      · split
        · exact calm_pure P _
        · exact calm_pure P _
    · dsimp only
      all_goals
        refine calm_bind ?_ fun s => ?_
        · rw [← Array.forIn_toList]
          refine calm_forIn _ (fun f s => ?_) _ _
          refine calm_ite ?_ (calm_pure P _)
          refine calm_bind' (calm_part P _ _ _) fun a w w' ha => ?_
          refine calm_bind' (calm_part P _ _ _) fun b w w' hb => ?_
          refine calm_bind (calm_eqGuardIn d _ a b (ints_part hxs ha) (ints_part hys hb)) fun c => ?_
          exact calm_ite (calm_pure P _) (calm_pure P _)
        · split
          · exact calm_pure P _
          · exact calm_pure P _
theorem calm_binAgg (P : Program) (op : BinOp) (t : TypeId) (a b : Array Value) (ha : intsB a = true) (hb : intsB b = true) : CalmAt P (binOp op t (.agg a) (.agg b)) := by
  cases op
  case eql => exact calm_bind (calm_equalIn _ t _ _ (.inr ⟨_, rfl, ha⟩) (.inr ⟨_, rfl, hb⟩)) fun _ => calm_pure P _
  case neq => exact calm_bind (calm_equalIn _ t _ _ (.inr ⟨_, rfl, ha⟩) (.inr ⟨_, rfl, hb⟩)) fun _ => calm_pure P _
  all_goals exact calm_stuck P _
theorem calm_eqGuardAgg (P : Program) (op : BinOp) (t : TypeId) (x y : Operand) (a b : Array Value) (ha : intsB a = true) (hb : intsB b = true) : CalmAt P (eqGuard op t x y (.agg a) (.agg b)) := by
  have h : CalmAt P (do
      if !((← program).eqGuardType (← program).depth t) then return
      if ← Op.eqGuardIn Op.maxDepth t (.agg a) (.agg b) then unsupported (.noEntry "binop/eql: two nil values of an interface type with methods, in a part of a struct or an array")) := by
    refine calm_bind (calm_program P) fun p => calm_bind (calm_program P) fun q => ?_
    refine calm_ite (calm_pure P _) (calm_bind (calm_eqGuardIn _ t _ _ (.inr ⟨_, rfl, ha⟩) (.inr ⟨_, rfl, hb⟩)) fun c => calm_ite (calm_unsupported P _) (calm_pure P _))
  cases op
  case eql => exact h
  case neq => exact h
  all_goals exact calm_pure P _
/-- What kind of operation it is, by its text: 'pure' needs 'calmOk' of its operands besides. -/
def kindOf (P : Program) (o : Oper) : OpKind :=
  match o.op with
  | .binOp .eql t _ _ _ => (match P.underlying t with | some (.struct _) => .other | _ => .pure)
  | .binOp .neq t _ _ _ => (match P.underlying t with | some (.struct _) => .other | _ => .pure)
  | .move _ | .assign _ | .pick .. | .build .. | .nilCheck _ | .binOp .. | .unOp .. | .slice .. | .field .. | .indexAddr .. | .index .. | .extract .. | .makeInterface .. | .makeFunc .. => .pure
  | .fieldAddr s _ f => if fieldSized P s f then .pure else .other
  | .call { callee := .builtin .len, args, .. } => if args.size = 1 then .pure else .other
  | .call { callee := .builtin .min, args, .. } => if args.size = 2 then .pure else .other
  | .call { callee := .builtin .max, args, .. } => if args.size = 2 then .pure else .other
  | .load .. => .read
  | .convert s _ _ => (match P.underlying s with | some (.int _) => .pure | _ => .other)
  | _ => .other

def calmOk (ρ : Operand → Value) (o : Oper) : Bool :=
  match o.op with
  | .nilCheck x => (match ρ x with | .func .. => false | _ => true)
  | .binOp _ _ x y _ => (match ρ x, ρ y with | .int .., .int .. => true | .string _, .string _ => true | .bool _, .bool _ => true | .agg a, .agg b => intsB a && intsB b | _, _ => false)
  | .convert _ _ x => (match ρ x with | .int .. => true | _ => false)
  | .call { callee := .builtin .len, args, .. } => (match ρ (args.getD 0 (.const undef)) with | .string _ | .slice .. => true | _ => false)
  | .call { callee := .builtin .min, args, .. } => (match ρ (args.getD 0 (.const undef)), ρ (args.getD 1 (.const undef)) with | .int .., .int .. => true | _, _ => false)
  | .call { callee := .builtin .max, args, .. } => (match ρ (args.getD 0 (.const undef)), ρ (args.getD 1 (.const undef)) with | .int .., .int .. => true | _, _ => false)
  | _ => true

/-- Calm, and what comes out is a value. -/
def CalmV (P : Program) (e : Sem Next) : Prop := ∀ w n w', e.run P w = .ok n w' → ∃ v, n = .value v ∧ w' = w ∧ ∀ w2, e.run P w2 = .ok (.value v) w2
theorem calmV_of {P : Program} {s : Sem Value} (h : CalmAt P s) : CalmV P (do Pure.pure (Next.value (← s))) := fun w n w' hr => by
  obtain ⟨v, w1, h1, h2⟩ := run_bind_ok hr
  obtain ⟨rfl, k⟩ := h _ _ _ h1
  simp only [Sem.run_pure, Result.ok.injEq] at h2
  obtain ⟨rfl, rfl⟩ := h2
  exact ⟨v, rfl, rfl, fun w2 => by rw [Sem.run_bind, k w2]; rfl⟩
theorem calmV_pure (P : Program) (v : Value) : CalmV P (Pure.pure (Next.value v)) := fun w n w' h => by
  simp only [Sem.run_pure, Result.ok.injEq] at h
  obtain ⟨rfl, rfl⟩ := h
  exact ⟨v, rfl, rfl, fun _ => rfl⟩
theorem calmV_never {P : Program} {e : Sem Next} (h : Never P e) : CalmV P e := fun w n w' hr => absurd hr (h w n w')
theorem calm_eqGuard (P : Program) (op : BinOp) (t : TypeId) (x y : Operand) (a b : Value) (h : (match a, b with | .int .., .int .. => true | .string _, .string _ => true | .bool _, .bool _ => true | _, _ => false) = true) :
    CalmAt P (eqGuard op t x y a b) := by
  cases a <;> cases b <;> simp only [Bool.false_eq_true] at h <;> cases op <;> exact calm_pure P _
theorem calm_exec {P : Program} {ρ : Operand → Value} {o : Oper} (hk : kindOf P o = .pure) (hc : calmOk ρ o = true) : CalmV P (execOp ρ o) := by
  obtain ⟨dst, op, type, pos, after, guard⟩ := o
  cases op <;> simp only [kindOf, reduceCtorEq] at hk <;> simp only [calmOk] at hc <;> simp only [execOp]
  case move x => exact calmV_pure P _
  case assign x => exact calmV_pure P _
  case pick c a b =>
    intro w n w' hr
    obtain ⟨v, w1, h1, h2⟩ := run_bind_ok hr
    obtain ⟨rfl, k⟩ := calm_asBool P _ _ _ _ h1
    simp only [Sem.run_pure, Result.ok.injEq] at h2
    obtain ⟨rfl, rfl⟩ := h2
    exact ⟨_, rfl, rfl, fun w2 => by rw [Sem.run_bind, k w2]; rfl⟩
  case nilCheck x =>
    cases hx : ρ x <;> simp only [hx] at hc ⊢ <;> first
      | exact calmV_pure P _
      | exact calmV_never (never_runtimePanic P _)
      | (rename_i q; cases q <;> first | exact calmV_pure P _ | exact calmV_never (never_runtimePanic P _))
      | cases hc
  case binOp op xt x y yt =>
    cases hx : ρ x <;> cases hy : ρ y <;> simp only [hx, hy, Bool.false_eq_true, Bool.and_eq_true] at hc
    · exact calmV_of (calm_bind (calm_eqGuard P _ _ _ _ _ _ rfl) fun _ => calm_binBool P _ _ _ _)
    · exact calmV_of (calm_bind (calm_eqGuard P _ _ _ _ _ _ rfl) fun _ => calm_binInt P _ _ _ _ _ _)
    · exact calmV_of (calm_bind (calm_eqGuard P _ _ _ _ _ _ rfl) fun _ => calm_binString P _ _ _ _)
    · exact calmV_of (calm_bind (calm_eqGuardAgg P _ _ _ _ _ _ hc.1 hc.2) fun _ => calm_binAgg P _ _ _ _ hc.1 hc.2)
  case unOp op t x => exact calmV_of (calm_unary P _ _)
  case build t ps => exact calmV_of (calm_build P _ _)
  case convert s d x =>
    cases hx : ρ x <;> simp only [hx, Bool.false_eq_true] at hc
    exact calmV_of (calm_convertInt P _ _ _ _)
  case slice t x lo hi mx => exact calmV_of (calm_sliceAt P _ _ _ _ _)
  case fieldAddr s x f =>
    split at hk
    · rename_i h; exact calmV_of (calm_fieldAt h _)
    · cases hk
  case field t x f => exact calmV_of (calm_field P _ _ _)
  case indexAddr t x i => exact calmV_of (calm_indexAt P _ _ _)
  case index t x i => exact calmV_of (calm_index P _ _ _)
  case makeInterface t x => exact calmV_of (calm_makeInterface P _ _)
  case makeFunc fn a b => exact calmV_of (calm_pure P _)
  case extract t i => exact calmV_of (calm_extract P _ _)
  case call c =>
    obtain ⟨callee, args, ats⟩ := c
    cases callee with
    | value f => cases hk
    | invoke r m => cases hk
    | builtin b =>
      cases b <;> simp only [reduceCtorEq] at hk
      case len =>
        split at hk
        · rename_i hs
          obtain ⟨x, rfl⟩ : ∃ x, args = #[x] := Array.size_eq_one_iff.1 hs
          show CalmV P (do Pure.pure (Next.value (← Builtin.len_ ats type ((#[x] : Array Operand).map ρ))))
          rw [show (#[x] : Array Operand).map ρ = #[ρ x] from by simp]
          exact calmV_of (calm_len P _ _ _ hc)
        · cases hk
      case max =>
        split at hk
        · rename_i hs
          obtain ⟨x, y, rfl⟩ : ∃ x y, args = #[x, y] := by
            obtain ⟨l⟩ := args
            match l, hs with
            | [x, y], _ => exact ⟨x, y, rfl⟩
          simp only [Array.getD_eq_getD_getElem?, List.getElem?_toArray, List.getElem?_cons_zero, List.getElem?_cons_succ, Option.getD_some] at hc
          cases hx : ρ x <;> cases hy : ρ y <;> simp only [hx, hy, Bool.false_eq_true] at hc
          rename_i k1 n1 k2 n2
          show CalmV P (do Pure.pure (Next.value (← Builtin.max_ ats type ((#[x, y] : Array Operand).map ρ))))
          rw [show (#[x, y] : Array Operand).map ρ = #[ρ x, ρ y] from by simp, hx, hy]
          exact calmV_of (calm_pure P _)
        · cases hk
      case min =>
        split at hk
        · rename_i hs
          obtain ⟨x, y, rfl⟩ : ∃ x y, args = #[x, y] := by
            obtain ⟨l⟩ := args
            match l, hs with
            | [x, y], _ => exact ⟨x, y, rfl⟩
          simp only [Array.getD_eq_getD_getElem?, List.getElem?_toArray, List.getElem?_cons_zero, List.getElem?_cons_succ, Option.getD_some] at hc
          cases hx : ρ x <;> cases hy : ρ y <;> simp only [hx, hy, Bool.false_eq_true] at hc
          rename_i k1 n1 k2 n2
          show CalmV P (do Pure.pure (Next.value (← Builtin.min_ ats type ((#[x, y] : Array Operand).map ρ))))
          rw [show (#[x, y] : Array Operand).map ρ = #[ρ x, ρ y] from by simp, hx, hy]
          exact calmV_of (calm_pure P _)
        · cases hk
def Looks {α : Type} (P : Program) (e : Sem α) : Prop := ∀ w n w', e.run P w = .ok n w' → w' = w
theorem looks_load (P : Program) (a : Addr) : Looks P (load a) := fun w n w' h => by
  rw [run_load] at h
  split at h
  · simp only [Result.ok.injEq] at h; exact h.2.symm
  · split at h
    · simp only [Result.ok.injEq] at h; exact h.2.symm
    · simp at h
theorem looks_of {α : Type} {P : Program} {e : Sem α} (h : CalmAt P e) : Looks P e := fun w n w' hr => (h w n w' hr).1
theorem looks_bind {α β : Type} {P : Program} {e : Sem α} {f : α → Sem β} (he : Looks P e) (hf : ∀ a, Looks P (f a)) : Looks P (e >>= f) := fun w n w' h => by
  obtain ⟨a, w1, h1, h2⟩ := run_bind_ok h
  obtain rfl := he _ _ _ h1
  exact hf _ _ _ _ h2
theorem looks_cells (P : Program) (a : Addr) : ∀ (n i : Nat) (acc : Array Value), Looks P (loadCellsFrom a i n acc)
  | 0, i, acc => looks_of (calm_pure P _)
  | n + 1, i, acc => looks_bind (looks_load P _) fun v => looks_cells P a n (i + 1) _
theorem looks_loadVar (P : Program) (t : TypeId) (a : Addr) : Looks P (loadVar t a) := by
  unfold loadVar
  refine looks_bind (looks_of (calm_isAgg P t)) fun b => ?_
  split
  · exact looks_bind (looks_of (calm_sizeOf P t)) fun n => looks_bind (looks_cells P a _ _ _) fun _ => looks_of (calm_pure P _)
  · exact looks_load P a
theorem looks_exec {P : Program} {ρ : Operand → Value} {o : Oper} (hk : kindOf P o = .read) : ∀ w n w', (execOp ρ o).run P w = .ok n w' → w' = w ∧ ∃ v, n = .value v := by
  obtain ⟨dst, op, type, pos, after, guard⟩ := o
  intro w n w' h
  cases op <;> simp only [kindOf, reduceCtorEq] at hk
  case load t a =>
    simp only [execOp] at h
    obtain ⟨v, w1, h1, h2⟩ := run_bind_ok h
    have : Looks P (Instr.loadAt t (ρ a)) := looks_bind (looks_of (calm_sureAddr P _)) fun _ => looks_loadVar P t _
    obtain rfl := this _ _ _ h1
    simp only [Sem.run_pure, Result.ok.injEq] at h2
    exact ⟨h2.2.symm, v, h2.1.symm⟩
  case fieldAddr s x f => split at hk <;> cases hk
  case binOp b t x y yt => cases b <;> simp only [reduceCtorEq] at hk <;> (split at hk <;> cases hk)
  case convert s d x => split at hk <;> cases hk
  case call c =>
    obtain ⟨callee, args, ats⟩ := c
    cases callee with
    | value f => cases hk
    | invoke r m => cases hk
    | builtin b => cases b <;> simp only [reduceCtorEq] at hk <;> (split at hk <;> cases hk)
end Go.Pw
