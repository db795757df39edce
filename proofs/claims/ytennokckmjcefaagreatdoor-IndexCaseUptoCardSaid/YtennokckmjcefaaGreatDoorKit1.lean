/- Helper lemmas that the proved statement rests on; no conditions of their own. -/
import Derived.WalkKit
import Derived.Deep.QuietTactic
set_option linter.unusedVariables false
namespace Go.Pw
open Go
def CalmAt {α : Type} (P : Program) (e : Sem α) : Prop :=
 ∀ w n w', e.run P w = .ok n w' → w' = w ∧ ∀ w2, e.run P w2 = .ok n w2
def Never {α : Type} (P : Program) (e : Sem α) : Prop := ∀ w n w', e.run P w ≠ .ok n w'
theorem CalmAt.never {α : Type} {P : Program} {e : Sem α} (h : Never P e) : CalmAt P e := fun w n w' hr => absurd hr (h w n w')
theorem zaf {α : Type} (P : Program) (a : α) : CalmAt P (Pure.pure a : Sem α) := fun w n w' h => by
 simp only [Sem.run_pure, Result.ok.injEq] at h
 obtain ⟨rfl, rfl⟩ := h
 exact ⟨rfl, fun _ => rfl⟩
theorem zfB {α : Type} (P : Program) (h : Halt) : CalmAt P (Sem.halt h : Sem α) := fun w n w' hr => by simp at hr
theorem zal {α : Type} (P : Program) (s : String) : CalmAt P (stuck s : Sem α) := zfB P _
theorem zaw {α : Type} (P : Program) (s : Unsupported) : CalmAt P (unsupported s : Sem α) := zfB P _
theorem zbB (P : Program) : CalmAt P program := fun w n w' h => by
 simp only [run_program, Result.ok.injEq] at h
 obtain ⟨rfl, rfl⟩ := h
 exact ⟨rfl, fun _ => rfl⟩
theorem zaM {α β : Type} {P : Program} {e : Sem α} {f : α → Sem β} {w w' : World} {b : β} (h : (e >>= f).run P w = .ok b w') :
  ∃ a w1, e.run P w = .ok a w1 ∧ (f a).run P w1 = .ok b w' := by
 rw [Sem.run_bind] at h
 cases he : e.run P w with
 | ok a w1 => rw [he] at h; exact ⟨a, w1, rfl, h⟩
 | halt x w1 => rw [he] at h; simp at h
theorem zad {α β : Type} {P : Program} {e : Sem α} {f : α → Sem β} (he : CalmAt P e) (hf : ∀ a, CalmAt P (f a)) : CalmAt P (e >>= f) := fun w n w' h => by
 obtain ⟨a, w1, h1, h2⟩ := zaM h
 obtain ⟨rfl, k1⟩ := he _ _ _ h1
 obtain ⟨rfl, k2⟩ := hf a _ _ _ h2
 exact ⟨rfl, fun w2 => by rw [Sem.run_bind, k1 w2]; exact k2 w2⟩
theorem zbE {α β : Type} {P : Program} {e : Sem α} {f : α → Sem β} (hf : ∀ a, Never P (f a)) : Never P (e >>= f) := fun w n w' h => by
 obtain ⟨a, w1, _, h2⟩ := zaM h; exact hf _ _ _ _ h2
theorem zgn {α : Type} (P : Program) (h : Halt) : Never P (Sem.halt h : Sem α) := fun w n w' hr => by simp at hr
theorem zaH {α : Type} (P : Program) (e : RuntimeError) : Never P (runtimePanic e : Sem α) := by
 unfold runtimePanic
 refine zbE fun p => ?_
 cases e <;> first
  | exact zgn P _
  | exact zbE fun _ => zbE fun _ => zgn P _
theorem zed {α : Type} (P : Program) (k : IntKind) (x y : Int) (c : BoundsCode) : Never P (boundsPanic k x y c : Sem α) := by
 unfold boundsPanic
 dsimp only
 split
 ·exact zbE fun _ => zaH P _
 ·exact zbE fun _ => zaH P _
theorem zoQ {α β : Type} {P : Program} {e : Sem α} {f : α → β} (he : CalmAt P e) : CalmAt P (f <$> e) := fun w n w' h => by
 simp only [Sem.run_map] at h
 cases h1 : e.run P w with
 | ok a w1 =>
  rw [h1] at h
  simp only [Result.andThen_ok, Result.ok.injEq] at h
  obtain ⟨rfl, rfl⟩ := h
  obtain ⟨rfl, k⟩ := he _ _ _ h1
  exact ⟨rfl, fun w2 => by simp [k w2]⟩
 | halt x w1 => rw [h1] at h; simp at h
theorem zdA (P : Program) (t : TypeId) : CalmAt P (typeInfo t) := by
 unfold typeInfo; refine zad (zbB P) fun p => ?_; split
 ·exact zaf P _
 ·exact zal P _
theorem zat (P : Program) (t : TypeId) : CalmAt P (underlying t) := by
 unfold underlying; refine zad (zbB P) fun p => ?_; split
 ·exact zaf P _
 ·exact zal P _
theorem zbc (P : Program) (t : TypeId) : CalmAt P (sizeOf t) := by
 unfold sizeOf; exact zad (zdA P t) fun _ => zaf P _
theorem zgo (P : Program) (t : TypeId) : CalmAt P (isAgg t) := by
 unfold isAgg; refine zad (zat P t) fun d => ?_; split <;> exact zaf P _
theorem zau (P : Program) (t : TypeId) (cs : Array Value) (off : Nat) : CalmAt P (part t cs off) := by
 unfold part
 refine zad (zgo P t) fun b => ?_
 split
 ·exact zad (zbc P t) fun _ => zaf P _
 ·split
  ·exact zaf P _
  ·exact zal P _
theorem zhT (P : Program) (v : Value) : CalmAt P (asIntOf v) := by
 unfold asIntOf; split
 ·exact zaf P _
 ·exact zaw P _
 ·exact zal P _
theorem zeT (P : Program) (v : Value) : CalmAt P (asBool v) := by
 unfold asBool; split
 ·exact zaf P _
 ·exact zal P _
theorem zlo (P : Program) (v : Value) : CalmAt P (asAgg v) := by
 unfold asAgg; split
 ·exact zaf P _
 ·exact zal P _
theorem zcC (P : Program) (v : Value) : CalmAt P (Instr.sureAddr v) := by
 unfold Instr.sureAddr; split
 ·exact zaf P _
 ·exact zal P _
theorem zjD (P : Program) (v : Value) : CalmAt P (asAddr v) := by
 unfold asAddr; split
 ·exact zaf P _
 ·exact .never (zaH P _)
 ·exact zal P _
def fieldSized (P : Program) (s f : Nat) : Bool :=
 match P.underlying s with
 | some (.struct fields) => (match fields[f]? with | some fd => (match P.info? fd.type with | some i => i.size != 0 | none => false) | none => false)
 | _ => false
theorem zhq {P : Program} {t : TypeId} {d : TypeDesc} {w w' : World} (h : (underlying t).run P w = .ok d w') : P.underlying t = some d := by
 unfold underlying at h
 rw [Sem.run_bind] at h
 simp only [run_program, Result.andThen_ok] at h
 split at h
 ·rename_i d' hd; simp only [Sem.run_pure, Result.ok.injEq] at h; rw [hd, h.1]
 ·simp at h
theorem zmc {P : Program} {t : TypeId} {n : Nat} {w w' : World} (h : (sizeOf t).run P w = .ok n w') : ∃ i, P.info? t = some i ∧ i.size = n := by
 unfold sizeOf at h
 obtain ⟨i, w1, h1, h2⟩ := zaM h
 simp only [Sem.run_pure, Result.ok.injEq] at h2
 unfold typeInfo at h1
 rw [Sem.run_bind] at h1
 simp only [run_program, Result.andThen_ok] at h1
 split at h1
 ·rename_i i' hi; simp only [Sem.run_pure, Result.ok.injEq] at h1; exact ⟨i', hi, by rw [h1.1]; exact h2.1⟩
 ·simp at h1
theorem calm_bind' {α β : Type} {P : Program} {e : Sem α} {f : α → Sem β} (he : CalmAt P e) (hf : ∀ a w w', e.run P w = .ok a w' → CalmAt P (f a)) : CalmAt P (e >>= f) := fun w n w' h => by
 obtain ⟨a, w1, h1, h2⟩ := zaM h
 obtain ⟨rfl, k1⟩ := he _ _ _ h1
 obtain ⟨rfl, k2⟩ := hf a _ _ h1 _ _ _ h2
 exact ⟨rfl, fun w2 => by rw [Sem.run_bind, k1 w2]; exact k2 w2⟩
theorem ziE {P : Program} {s : TypeId} {f : Nat} (hz : fieldSized P s f = true) (v : Value) : CalmAt P (Instr.fieldAt s v f) := by
 unfold Instr.fieldAt
 refine calm_bind' (zat P s) fun d w w' hd => ?_
 have hu := zhq hd
 split
 ·rename_i fields
  split
  ·rename_i fd hf
   refine zad (zcC P v) fun a => ?_
   refine zad ?_ fun _ => zaf P _
   unfold fieldPlace
   refine calm_bind' (zbc P _) fun n w w' hn => ?_
   obtain ⟨i, hi, hin⟩ := zmc hn
   split
   ·rename_i h0
    simp [fieldSized, hu, hf, hi, hin, h0] at hz
   ·exact zaf P _
  ·exact zal P _
 ·exact zal P _
theorem zap {α : Type} {P : Program} {c : Prop} [Decidable c] {x y : Sem α} (hx : CalmAt P x) (hy : CalmAt P y) : CalmAt P (if c then x else y) := by
 split
 ·exact hx
 ·exact hy
theorem zjx {α : Type} (P : Program) (k : IntKind) (x y : Int) (c : BoundsCode) : CalmAt P (boundsPanic k x y c : Sem α) := .never (zed P k x y c)
theorem zst {α : Type} (P : Program) (e : RuntimeError) : CalmAt P (runtimePanic e : Sem α) := .never (zaH P e)
theorem CLM {p : Prop} (h : p := by first | with_reducible exact zaf _ _ | with_reducible exact zal _ _ | with_reducible exact zaw _ _ | with_reducible exact zfB _ _ | with_reducible exact zjx _ _ _ _ _ | with_reducible exact zst _ _ | with_reducible exact zhT _ _ | with_reducible exact zeT _ _ | with_reducible exact zlo _ _ | with_reducible exact zat _ _ | with_reducible exact zcC _ _ | with_reducible exact zjD _ _ | with_reducible exact zbc _ _) : p := h
theorem ziJ (P : Program) (t : TypeId) (x ix : Value) : CalmAt P (Instr.indexAt t x ix) := by
 unfold Instr.indexAt
 repeat' (first | exact CLM | with_reducible exact zau P _ _ _ | with_reducible refine zad ?_ (fun _ => ?_) | with_reducible refine zap ?_ ?_ | split | dsimp only)
theorem zlF (P : Program) (t : TypeId) (x ix : Value) : CalmAt P (Instr.index t x ix) := by
 unfold Instr.index
 repeat' (first | exact CLM | with_reducible exact zau P _ _ _ | with_reducible refine zad ?_ (fun _ => ?_) | with_reducible refine zap ?_ ?_ | split | dsimp only)
theorem zlj (P : Program) (t : TypeId) (x : Value) (f : Nat) : CalmAt P (Instr.field t x f) := by
 unfold Instr.field
 repeat' (first | exact CLM | with_reducible exact zau P _ _ _ | with_reducible refine zad ?_ (fun _ => ?_) | with_reducible refine zap ?_ ?_ | split | dsimp only)
theorem ziB (P : Program) (x : Value) (i : Nat) : CalmAt P (Instr.extract x i) := by
 unfold Instr.extract
 repeat' (first | exact CLM | with_reducible exact zau P _ _ _ | with_reducible refine zad ?_ (fun _ => ?_) | with_reducible refine zap ?_ ?_ | split | dsimp only)
theorem zdW (P : Program) (t : TypeId) (x : Value) : CalmAt P (Instr.makeInterface t x) := by
 unfold Instr.makeInterface
 repeat' (first | exact CLM | with_reducible exact zau P _ _ _ | with_reducible refine zad ?_ (fun _ => ?_) | with_reducible refine zap ?_ ?_ | split | dsimp only)
theorem zfA (P : Program) (x : Value) (y : Nat) (c : BoundsCode) : CalmAt P (Instr.sliceBound x y c) := by
 unfold Instr.sliceBound
 repeat' (first | exact CLM | with_reducible exact zau P _ _ _ | with_reducible refine zad ?_ (fun _ => ?_) | with_reducible refine zap ?_ ?_ | split | dsimp only)
theorem zcK (P : Program) (b : Bool) (len cap : Nat) (lo hi mx : Option Value) : CalmAt P (Instr.sliceBounds b len cap lo hi mx) := by
 unfold Instr.sliceBounds
 repeat' (first | exact CLM | with_reducible exact zfA P _ _ _ | with_reducible exact zau P _ _ _ | with_reducible refine zad ?_ (fun _ => ?_) | with_reducible refine zap ?_ ?_ | split | dsimp only)
theorem zln (P : Program) (t : TypeId) (x : Value) (lo hi mx : Option Value) : CalmAt P (Instr.slice t x lo hi mx) := by
 unfold Instr.slice
 repeat' (first | exact CLM | with_reducible exact zcK P _ _ _ _ _ _ | with_reducible exact zau P _ _ _ | with_reducible refine zad ?_ (fun _ => ?_) | with_reducible refine zap ?_ ?_ | split | dsimp only)
theorem zhV (P : Program) (t : TypeId) (x : Value) (lo hi mx : Option Value) : CalmAt P (Instr.sliceAt t x lo hi mx) := by
 unfold Instr.sliceAt
 repeat' (first | exact CLM | with_reducible exact zcK P _ _ _ _ _ _ | with_reducible exact zln P _ _ _ _ _ | with_reducible exact zau P _ _ _ | with_reducible refine zad ?_ (fun _ => ?_) | with_reducible refine zap ?_ ?_ | split | dsimp only)
theorem zgK (P : Program) (op : BinOp) (a b : ByteArray) : CalmAt P (Op.stringOp op a b) := by
 unfold Op.stringOp
 repeat' (first | exact CLM | with_reducible exact zau P _ _ _ | with_reducible refine zad ?_ (fun _ => ?_) | with_reducible refine zap ?_ ?_ | split | dsimp only)
theorem zaR (P : Program) (op : BinOp) (k : IntKind) (a b : Int) : CalmAt P (Op.intArith op k a b) := by
 unfold Op.intArith
 repeat' (first | exact CLM | with_reducible exact zau P _ _ _ | with_reducible refine zad ?_ (fun _ => ?_) | with_reducible refine zap ?_ ?_ | split | dsimp only)
theorem zaU (P : Program) (op : BinOp) (k : IntKind) (a b : Int) : CalmAt P (Op.intBits op k a b) := by
 unfold Op.intBits
 repeat' (first | exact CLM | with_reducible exact zau P _ _ _ | with_reducible refine zad ?_ (fun _ => ?_) | with_reducible refine zap ?_ ?_ | split | dsimp only)
theorem zgx (P : Program) (op : BinOp) (k k' : IntKind) (a b : Int) : CalmAt P (Op.shift op k a k' b) := by
 unfold Op.shift
 repeat' (first | exact CLM | with_reducible exact zaR P _ _ _ _ | with_reducible exact zaU P _ _ _ _ | with_reducible exact zau P _ _ _ | with_reducible refine zad ?_ (fun _ => ?_) | with_reducible refine zap ?_ ?_ | split | dsimp only)
theorem zfv (P : Program) (op : BinOp) (k : IntKind) (a b : Int) : CalmAt P (Op.intDiv op k a b) := by
 unfold Op.intDiv
 repeat' (first | exact CLM | with_reducible exact zaR P _ _ _ _ | with_reducible exact zaU P _ _ _ _ | with_reducible exact zau P _ _ _ | with_reducible refine zad ?_ (fun _ => ?_) | with_reducible refine zap ?_ ?_ | split | dsimp only)
theorem zjs (P : Program) (op : BinOp) (a b : Int) : CalmAt P (Op.intCmp op a b) := by
 unfold Op.intCmp
 repeat' (first | exact CLM | with_reducible exact zaR P _ _ _ _ | with_reducible exact zaU P _ _ _ _ | with_reducible exact zau P _ _ _ | with_reducible refine zad ?_ (fun _ => ?_) | with_reducible refine zap ?_ ?_ | split | dsimp only)
theorem ziY (P : Program) (op : BinOp) (t : TypeId) (k k' : IntKind) (a b : Int) : CalmAt P (binOp op t (.int k a) (.int k' b)) := by
 cases op
 case shl => exact (zgx P .shl k k' a b : CalmAt P (Op.shift .shl k a k' b))
 case shr => exact (zgx P .shr k k' a b : CalmAt P (Op.shift .shr k a k' b))
 case add => exact zap (zal P _) (zaR P _ _ _ _)
 case sub => exact zap (zal P _) (zaR P _ _ _ _)
 case mul => exact zap (zal P _) (zaR P _ _ _ _)
 case quo => exact zap (zal P _) (zfv P _ _ _ _)
 case rem => exact zap (zal P _) (zfv P _ _ _ _)
 case and => exact zap (zal P _) (zaU P _ _ _ _)
 case or => exact zap (zal P _) (zaU P _ _ _ _)
 case xor => exact zap (zal P _) (zaU P _ _ _ _)
 case andNot => exact zap (zal P _) (zaU P _ _ _ _)
 all_goals exact zap (zal P _) (zjs P _ _ _)
theorem zfT (P : Program) (op : BinOp) (t : TypeId) (a b : ByteArray) : CalmAt P (binOp op t (.string a) (.string b)) := by
 have h : binOp op t (.string a) (.string b) = Op.stringOp op a b := by cases op <;> rfl
 rw [h]; exact zgK P op a b
theorem zde (P : Program) (t : TypeId) (a b : Bool) : CalmAt P (Op.equal t (.bool a) (.bool b)) := by
 unfold Op.equal Op.maxDepth
 have h : Op.equalIn 10000 t (.bool a) (.bool b) = (do
   match ← underlying t with
   | .bool => pure (a == b)
   | _ => stuck "==: the operands do not fit the type, or the type is not comparable") := by
  show (underlying t >>= fun d => _) = (underlying t >>= fun d => _)
  congr 1
  funext d
  cases d <;> rfl
 rw [h]
 repeat' (first | exact CLM | with_reducible exact zaR P _ _ _ _ | with_reducible exact zaU P _ _ _ _ | with_reducible exact zau P _ _ _ | with_reducible refine zad ?_ (fun _ => ?_) | with_reducible refine zap ?_ ?_ | split | dsimp only)
theorem ziu (P : Program) (op : BinOp) (t : TypeId) (a b : Bool) : CalmAt P (binOp op t (.bool a) (.bool b)) := by
 cases op
 case eql => exact zad (zde P t a b) fun _ => zaf P _
 case neq => exact zad (zde P t a b) fun _ => zaf P _
 all_goals exact zal P _
theorem zly (P : Program) (op : UnOp) (x : Value) : CalmAt P (Op.unary op x) := by
 unfold Op.unary
 repeat' (first | exact CLM | with_reducible exact zaR P _ _ _ _ | with_reducible exact zaU P _ _ _ _ | with_reducible exact zau P _ _ _ | with_reducible refine zad ?_ (fun _ => ?_) | with_reducible refine zap ?_ ?_ | split | dsimp only)
theorem zga (P : Program) (s d : TypeId) (k : IntKind) (n : Int) : CalmAt P (Conv.unsafePointer s d (.int k n)) := by
 unfold Conv.unsafePointer
 refine zad (zat P s) fun ds => ?_
 refine zad (zat P d) fun dd => ?_
 cases ds <;> cases dd <;> first | exact zal P _ | (dsimp only; split <;> first | contradiction | exact zaw P _ | exact zal P _)
theorem zfl (P : Program) (s d : TypeId) (k : IntKind) (n : Int) : CalmAt P (convert s d (.int k n)) := by
 unfold convert
 refine zad (zat P s) fun ds => ?_
 refine zad (zat P d) fun dd => ?_
 cases ds <;> cases dd <;> first | exact zaf P _ | exact zaw P _ | exact zal P _ | exact zga P s d k n
theorem zpN (P : Program) (ats : Array TypeId) (t : TypeId) (x : Value) (hx : (match x with | .string _ | .slice .. => true | _ => false) = true) :
  CalmAt P (Builtin.len_ ats t #[x]) := by
 unfold Builtin.len_
 cases hu : ats[0]? with
 | none => exact zal P _
 | some u =>
  refine zad (zat P u) fun d => ?_
  cases x <;> simp only [Bool.false_eq_true] at hx <;> cases d <;> first | exact zaf P _ | exact zal P _ | (refine zad (zat P _) fun d' => ?_; cases d' <;> first | exact zaf P _ | exact zal P _)
theorem zfU (P : Program) (t : TypeId) : CalmAt P (zeroValue t) := by
 unfold zeroValue; refine zad (zdA P t) fun i => ?_; split
 ·exact zaf P _
 ·exact zaw P _
theorem zdY {α β : Type} {P : Program} (f : α → Sem β) (hf : ∀ a, CalmAt P (f a)) : ∀ (l : List α), CalmAt P (l.mapM f)
 | [] => by rw [List.mapM_nil]; exact zaf P _
 | a :: l => by rw [List.mapM_cons]; exact zad (hf a) fun _ => zad (zdY f hf l) fun _ => zaf P _
theorem zma {α β : Type} {P : Program} (f : α → Sem β) (hf : ∀ a, CalmAt P (f a)) (as : Array α) : CalmAt P (as.mapM f) := by
 rw [Array.mapM_eq_mapM_toList]; exact zoQ (zdY f hf _)
theorem zlt (P : Program) (t : TypeId) (parts : Array (Nat × Value)) : CalmAt P (Instr.build t parts) := by
 unfold Instr.build
 refine zad (zfU P t) fun z => ?_
 refine zad (zat P t) fun d => ?_
 split
 ·refine zad (zma _ (fun f => zad (zbc P _) fun _ => zaf P _) _) fun _ => ?_
  split
  ·exact zaf P _
  ·exact zal P _
 ·refine zad (zbc P _) fun _ => ?_
  split
  ·exact zaf P _
  ·exact zal P _
 ·exact zal P _
inductive OpKind where
 | pure | read | other
 deriving DecidableEq
theorem zco {α β : Type} {P : Program} (f : α → β → Sem (ForInStep β)) (h : ∀ a b, CalmAt P (f a b)) : ∀ (l : List α) (b : β), CalmAt P (forIn l b f)
 | [], b => by rw [List.forIn_nil]; exact zaf P _
 | a :: l, b => by
  rw [List.forIn_cons]
  refine zad (h a b) fun s => ?_
  cases s with
  | done b => exact zaf P _
  | yield b => exact zco f h l b
def intsB (a : Array Value) : Bool := a.toList.all fun v => match v with | .int .. => true | _ => false
def Ints_ (v : Value) : Prop := (∃ k n, v = .int k n) ∨ ∃ cs, v = .agg cs ∧ intsB cs = true
theorem zbD {P : Program} {t : TypeId} {cs : Array Value} {off : Nat} {w w' : World} {v : Value} (hc : intsB cs = true) (h : (part t cs off).run P w = .ok v w') : Ints_ v := by
 unfold part at h
 obtain ⟨b, w1, h1, h2⟩ := zaM h
 split at h2
 ·obtain ⟨n, w2, h3, h4⟩ := zaM h2
  simp only [Sem.run_pure, Result.ok.injEq] at h4
  obtain ⟨rfl, rfl⟩ := h4
  refine .inr ⟨_, rfl, ?_⟩
  unfold intsB at hc ⊢
  rw [List.all_eq_true] at hc ⊢
  intro x hx
  refine hc x ?_
  rw [Array.toList_extract] at hx
  exact List.mem_of_mem_drop (List.mem_of_mem_take (by simpa [List.extract] using hx))
 ·split at h2
  ·rename_i u hu
   simp only [Sem.run_pure, Result.ok.injEq] at h2
   obtain ⟨rfl, rfl⟩ := h2
   unfold intsB at hc
   rw [List.all_eq_true] at hc
   have := hc u (by
    obtain ⟨hi, e⟩ := Array.getElem?_eq_some_iff.1 hu
    rw [← e]; exact Array.getElem_mem_toList hi)
   cases u <;> first | exact .inl ⟨_, _, rfl⟩ | cases this
  ·simp at h2
theorem zcd {P : Program} : ∀ (d : Nat) (t : TypeId) (x y : Value), Ints_ x → Ints_ y → CalmAt P (Op.equalIn d t x y)
 | 0, t, x, y, _, _ => by unfold Op.equalIn; exact zaw P _
 | d + 1, t, x, y, hx, hy => by
  unfold Op.equalIn
  refine zad (zat P t) fun u => ?_
  rcases hx with ⟨k, n, rfl⟩ | ⟨xs, rfl, hxs⟩ <;> rcases hy with ⟨k', n', rfl⟩ | ⟨ys, rfl, hys⟩ <;> cases u <;> try exact zal P _
  ·exact zap (zaf P _) (zal P _)
  ·dsimp only
   refine zad (zbc P _) fun n => ?_
   refine zad ?_ fun s => ?_
   ·rw [Std.Legacy.Range.forIn_eq_forIn_range']
    refine zco _ (fun i s => ?_) _ _
    refine calm_bind' (zau P _ _ _) fun a w w' ha => ?_
    refine calm_bind' (zau P _ _ _) fun b w w' hb => ?_
    refine zad (zcd d _ a b (zbD hxs ha) (zbD hys hb)) fun c => ?_
    exact zap (zaf P _) (zaf P _)
   ·split
    ·exact zaf P _
    ·exact zaf P _
  ·dsimp only
   refine zad (zbB P) fun p => zap (zad (zaw P _) fun _ => ?_) ?_
   all_goals
    refine zad ?_ fun s => ?_
    ·rw [← Array.forIn_toList]
     refine zco _ (fun f s => ?_) _ _
     refine zap ?_ (zaf P _)
     refine calm_bind' (zau P _ _ _) fun a w w' ha => ?_
     refine calm_bind' (zau P _ _ _) fun b w w' hb => ?_
     refine zad (zcd d _ a b (zbD hxs ha) (zbD hys hb)) fun c => ?_
     exact zap (zaf P _) (zaf P _)
    ·split
     ·exact zaf P _
     ·exact zaf P _
theorem zci {P : Program} : ∀ (d : Nat) (t : TypeId) (x y : Value), Ints_ x → Ints_ y → CalmAt P (Op.eqGuardIn d t x y)
 | 0, t, x, y, _, _ => by unfold Op.eqGuardIn; exact zaw P _
 | d + 1, t, x, y, hx, hy => by
  unfold Op.eqGuardIn
  refine zad (zat P t) fun u => ?_
  rcases hx with ⟨k, n, rfl⟩ | ⟨xs, rfl, hxs⟩ <;> rcases hy with ⟨k', n', rfl⟩ | ⟨ys, rfl, hys⟩ <;> cases u <;> try exact zaf P _
  ·dsimp only
   refine zad (zbc P _) fun n => ?_
   refine zad ?_ fun s => ?_
   ·rw [Std.Legacy.Range.forIn_eq_forIn_range']
    refine zco _ (fun i s => ?_) _ _
    refine calm_bind' (zau P _ _ _) fun a w w' ha => ?_
    refine calm_bind' (zau P _ _ _) fun b w w' hb => ?_
    refine zad (zci d _ a b (zbD hxs ha) (zbD hys hb)) fun c => ?_
    exact zap (zaf P _) (zaf P _)
   ·split
    ·exact zaf P _
    ·exact zaf P _
  ·dsimp only
   all_goals
    refine zad ?_ fun s => ?_
    ·rw [← Array.forIn_toList]
     refine zco _ (fun f s => ?_) _ _
     refine zap ?_ (zaf P _)
     refine calm_bind' (zau P _ _ _) fun a w w' ha => ?_
     refine calm_bind' (zau P _ _ _) fun b w w' hb => ?_
     refine zad (zci d _ a b (zbD hxs ha) (zbD hys hb)) fun c => ?_
     exact zap (zaf P _) (zaf P _)
    ·split
     ·exact zaf P _
     ·exact zaf P _
theorem ziX (P : Program) (op : BinOp) (t : TypeId) (a b : Array Value) (ha : intsB a = true) (hb : intsB b = true) : CalmAt P (binOp op t (.agg a) (.agg b)) := by
 cases op
 case eql => exact zad (zcd _ t _ _ (.inr ⟨_, rfl, ha⟩) (.inr ⟨_, rfl, hb⟩)) fun _ => zaf P _
 case neq => exact zad (zcd _ t _ _ (.inr ⟨_, rfl, ha⟩) (.inr ⟨_, rfl, hb⟩)) fun _ => zaf P _
 all_goals exact zal P _
theorem zfE (P : Program) (op : BinOp) (t : TypeId) (x y : Operand) (a b : Array Value) (ha : intsB a = true) (hb : intsB b = true) : CalmAt P (eqGuard op t x y (.agg a) (.agg b)) := by
 have h : CalmAt P (do
   if !((← program).eqGuardType (← program).depth t) then return
   if ← Op.eqGuardIn Op.maxDepth t (.agg a) (.agg b) then unsupported (.noEntry "binop/eql: two nil values of an interface type with methods, in a part of a struct or an array")) := by
  refine zad (zbB P) fun p => zad (zbB P) fun q => ?_
  refine zap (zaf P _) (zad (zci _ t _ _ (.inr ⟨_, rfl, ha⟩) (.inr ⟨_, rfl, hb⟩)) fun c => zap (zaw P _) (zaf P _))
 cases op
 case eql => exact h
 case neq => exact h
 all_goals exact zaf P _
def kindOf (P : Program) (o : Oper) : OpKind :=
 match o.op with
 | .binOp .eql t _ _ _ => (match P.underlying t with | some (.struct _) => .other | _ => .pure)
 | .binOp .neq t _ _ _ => (match P.underlying t with | some (.struct _) => .other | _ => .pure)
 | .move _ | .assign _ | .pick .. | .build .. | .nilCheck _ | .binOp .. | .unOp .. | .slice .. | .field .. | .indexAddr .. | .index .. | .extract .. | .makeInterface .. | .makeFunc .. => .pure
 | .fieldAddr s _ f => if fieldSized P s f then .pure else .other
 | .call { callee := .builtin .len, args, .. } => if args.size = 1 then .pure else .other
 | .call { callee := .builtin .min, args, .. } => if args.size = 2 then .pure else .other
 | .call { callee := .builtin .max, args, .. } => if args.size = 2 then .pure else .other
 | .load .. => .read
 | .convert s _ _ => (match P.underlying s with | some (.int _) => .pure | _ => .other)
 | _ => .other
def calmOk (ρ : Operand → Value) (o : Oper) : Bool :=
 match o.op with
 | .nilCheck x => (match ρ x with | .func .. => false | _ => true)
 | .binOp _ _ x y _ => (match ρ x, ρ y with | .int .., .int .. => true | .string _, .string _ => true | .bool _, .bool _ => true | .agg a, .agg b => intsB a && intsB b | _, _ => false)
 | .convert _ _ x => (match ρ x with | .int .. => true | _ => false)
 | .call { callee := .builtin .len, args, .. } => (match ρ (args.getD 0 (.const undef)) with | .string _ | .slice .. => true | _ => false)
 | .call { callee := .builtin .min, args, .. } => (match ρ (args.getD 0 (.const undef)), ρ (args.getD 1 (.const undef)) with | .int .., .int .. => true | _, _ => false)
 | .call { callee := .builtin .max, args, .. } => (match ρ (args.getD 0 (.const undef)), ρ (args.getD 1 (.const undef)) with | .int .., .int .. => true | _, _ => false)
 | _ => true
def CalmV (P : Program) (e : Sem Next) : Prop := ∀ w n w', e.run P w = .ok n w' → ∃ v, n = .value v ∧ w' = w ∧ ∀ w2, e.run P w2 = .ok (.value v) w2
theorem zaP {P : Program} {s : Sem Value} (h : CalmAt P s) : CalmV P (do Pure.pure (Next.value (← s))) := fun w n w' hr => by
 obtain ⟨v, w1, h1, h2⟩ := zaM hr
 obtain ⟨rfl, k⟩ := h _ _ _ h1
 simp only [Sem.run_pure, Result.ok.injEq] at h2
 obtain ⟨rfl, rfl⟩ := h2
 exact ⟨v, rfl, rfl, fun w2 => by rw [Sem.run_bind, k w2]; rfl⟩
theorem zdd (P : Program) (v : Value) : CalmV P (Pure.pure (Next.value v)) := fun w n w' h => by
 simp only [Sem.run_pure, Result.ok.injEq] at h
 obtain ⟨rfl, rfl⟩ := h
 exact ⟨v, rfl, rfl, fun _ => rfl⟩
theorem zfc {P : Program} {e : Sem Next} (h : Never P e) : CalmV P e := fun w n w' hr => absurd hr (h w n w')
theorem zcS (P : Program) (op : BinOp) (t : TypeId) (x y : Operand) (a b : Value) (h : (match a, b with | .int .., .int .. => true | .string _, .string _ => true | .bool _, .bool _ => true | _, _ => false) = true) :
  CalmAt P (eqGuard op t x y a b) := by
 cases a <;> cases b <;> simp only [Bool.false_eq_true] at h <;> cases op <;> exact zaf P _
theorem zfe {P : Program} {ρ : Operand → Value} {o : Oper} (hk : kindOf P o = .pure) (hc : calmOk ρ o = true) : CalmV P (execOp ρ o) := by
 obtain ⟨dst, op, type, pos, after, guard⟩ := o
 cases op <;> simp only [kindOf, reduceCtorEq] at hk <;> simp only [calmOk] at hc <;> simp only [execOp]
 case move x => exact zdd P _
 case assign x => exact zdd P _
 case pick c a b =>
  intro w n w' hr
  obtain ⟨v, w1, h1, h2⟩ := zaM hr
  obtain ⟨rfl, k⟩ := zeT P _ _ _ _ h1
  simp only [Sem.run_pure, Result.ok.injEq] at h2
  obtain ⟨rfl, rfl⟩ := h2
  exact ⟨_, rfl, rfl, fun w2 => by rw [Sem.run_bind, k w2]; rfl⟩
 case nilCheck x =>
  cases hx : ρ x <;> simp only [hx] at hc ⊢ <;> first
   | exact zdd P _
   | exact zfc (zaH P _)
   | (rename_i q; cases q <;> first | exact zdd P _ | exact zfc (zaH P _))
   | cases hc
 case binOp op xt x y yt =>
  cases hx : ρ x <;> cases hy : ρ y <;> simp only [hx, hy, Bool.false_eq_true, Bool.and_eq_true] at hc
  ·exact zaP (zad (zcS P _ _ _ _ _ _ rfl) fun _ => ziu P _ _ _ _)
  ·exact zaP (zad (zcS P _ _ _ _ _ _ rfl) fun _ => ziY P _ _ _ _ _ _)
  ·exact zaP (zad (zcS P _ _ _ _ _ _ rfl) fun _ => zfT P _ _ _ _)
  ·exact zaP (zad (zfE P _ _ _ _ _ _ hc.1 hc.2) fun _ => ziX P _ _ _ _ hc.1 hc.2)
 case unOp op t x => exact zaP (zly P _ _)
 case build t ps => exact zaP (zlt P _ _)
 case convert s d x =>
  cases hx : ρ x <;> simp only [hx, Bool.false_eq_true] at hc
  exact zaP (zfl P _ _ _ _)
 case slice t x lo hi mx => exact zaP (zhV P _ _ _ _ _)
 case fieldAddr s x f =>
  split at hk
  ·rename_i h; exact zaP (ziE h _)
  ·cases hk
 case field t x f => exact zaP (zlj P _ _ _)
 case indexAddr t x i => exact zaP (ziJ P _ _ _)
 case index t x i => exact zaP (zlF P _ _ _)
 case makeInterface t x => exact zaP (zdW P _ _)
 case makeFunc fn a b => exact zaP (zaf P _)
 case extract t i => exact zaP (ziB P _ _)
 case call c =>
  obtain ⟨callee, args, ats⟩ := c
  cases callee with
  | value f => cases hk
  | invoke r m => cases hk
  | builtin b =>
   cases b <;> simp only [reduceCtorEq] at hk
   case len =>
    split at hk
    ·rename_i hs
     obtain ⟨x, rfl⟩ : ∃ x, args = #[x] := Array.size_eq_one_iff.1 hs
     show CalmV P (do Pure.pure (Next.value (← Builtin.len_ ats type ((#[x] : Array Operand).map ρ))))
     rw [show (#[x] : Array Operand).map ρ = #[ρ x] from by simp]
     exact zaP (zpN P _ _ _ hc)
    ·cases hk
   case max =>
    split at hk
    ·rename_i hs
     obtain ⟨x, y, rfl⟩ : ∃ x y, args = #[x, y] := by
      obtain ⟨l⟩ := args
      match l, hs with
      | [x, y], _ => exact ⟨x, y, rfl⟩
     simp only [Array.getD_eq_getD_getElem?, List.getElem?_toArray, List.getElem?_cons_zero, List.getElem?_cons_succ, Option.getD_some] at hc
     cases hx : ρ x <;> cases hy : ρ y <;> simp only [hx, hy, Bool.false_eq_true] at hc
     rename_i k1 n1 k2 n2
     show CalmV P (do Pure.pure (Next.value (← Builtin.max_ ats type ((#[x, y] : Array Operand).map ρ))))
     rw [show (#[x, y] : Array Operand).map ρ = #[ρ x, ρ y] from by simp, hx, hy]
     exact zaP (zaf P _)
    ·cases hk
   case min =>
    split at hk
    ·rename_i hs
     obtain ⟨x, y, rfl⟩ : ∃ x y, args = #[x, y] := by
      obtain ⟨l⟩ := args
      match l, hs with
      | [x, y], _ => exact ⟨x, y, rfl⟩
     simp only [Array.getD_eq_getD_getElem?, List.getElem?_toArray, List.getElem?_cons_zero, List.getElem?_cons_succ, Option.getD_some] at hc
     cases hx : ρ x <;> cases hy : ρ y <;> simp only [hx, hy, Bool.false_eq_true] at hc
     rename_i k1 n1 k2 n2
     show CalmV P (do Pure.pure (Next.value (← Builtin.min_ ats type ((#[x, y] : Array Operand).map ρ))))
     rw [show (#[x, y] : Array Operand).map ρ = #[ρ x, ρ y] from by simp, hx, hy]
     exact zaP (zaf P _)
    ·cases hk
def Looks {α : Type} (P : Program) (e : Sem α) : Prop := ∀ w n w', e.run P w = .ok n w' → w' = w
theorem zgC (P : Program) (a : Addr) : Looks P (load a) := fun w n w' h => by
 rw [run_load] at h
 split at h
 ·simp only [Result.ok.injEq] at h; exact h.2.symm
 ·split at h
  ·simp only [Result.ok.injEq] at h; exact h.2.symm
  ·simp at h
theorem zdL {α : Type} {P : Program} {e : Sem α} (h : CalmAt P e) : Looks P e := fun w n w' hr => (h w n w' hr).1
theorem zcm {α β : Type} {P : Program} {e : Sem α} {f : α → Sem β} (he : Looks P e) (hf : ∀ a, Looks P (f a)) : Looks P (e >>= f) := fun w n w' h => by
 obtain ⟨a, w1, h1, h2⟩ := zaM h
 obtain rfl := he _ _ _ h1
 exact hf _ _ _ _ h2
theorem zfp (P : Program) (a : Addr) : ∀ (n i : Nat) (acc : Array Value), Looks P (loadCellsFrom a i n acc)
 | 0, i, acc => zdL (zaf P _)
 | n + 1, i, acc => zcm (zgC P _) fun v => zfp P a n (i + 1) _
theorem zgR (P : Program) (t : TypeId) (a : Addr) : Looks P (loadVar t a) := by
 unfold loadVar
 refine zcm (zdL (zgo P t)) fun b => ?_
 split
 ·exact zcm (zdL (zbc P t)) fun n => zcm (zfp P a _ _ _) fun _ => zdL (zaf P _)
 ·exact zgC P a
theorem zgy {P : Program} {ρ : Operand → Value} {o : Oper} (hk : kindOf P o = .read) : ∀ w n w', (execOp ρ o).run P w = .ok n w' → w' = w ∧ ∃ v, n = .value v := by
 obtain ⟨dst, op, type, pos, after, guard⟩ := o
 intro w n w' h
 cases op <;> simp only [kindOf, reduceCtorEq] at hk
 case load t a =>
  simp only [execOp] at h
  obtain ⟨v, w1, h1, h2⟩ := zaM h
  have : Looks P (Instr.loadAt t (ρ a)) := zcm (zdL (zcC P _)) fun _ => zgR P t _
  obtain rfl := this _ _ _ h1
  simp only [Sem.run_pure, Result.ok.injEq] at h2
  exact ⟨h2.2.symm, v, h2.1.symm⟩
 case fieldAddr s x f => split at hk <;> cases hk
 case binOp b t x y yt => cases b <;> simp only [reduceCtorEq] at hk <;> (split at hk <;> cases hk)
 case convert s d x => split at hk <;> cases hk
 case call c =>
  obtain ⟨callee, args, ats⟩ := c
  cases callee with
  | value f => cases hk
  | invoke r m => cases hk
  | builtin b => cases b <;> simp only [reduceCtorEq] at hk <;> (split at hk <;> cases hk)
end Go.Pw
