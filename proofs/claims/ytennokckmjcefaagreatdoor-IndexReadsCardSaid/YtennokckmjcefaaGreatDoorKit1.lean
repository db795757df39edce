/- Helper lemmas; no conditions of their own. -/
import Derived.WalkKit
import Derived.Deep.QuietTactic
set_option linter.unusedVariables false
namespace Go.Pw
open Go
def zaj {α : Type} (P : Program) (e : Sem α) : Prop :=
 ∀ w n w', e.run P w = .ok n w' → w' = w ∧ ∀ w2, e.run P w2 = .ok n w2
def Never {α : Type} (P : Program) (e : Sem α) : Prop := ∀ w n w', e.run P w ≠ .ok n w'
theorem zaj.never {α : Type} {P : Program} {e : Sem α} (h : Never P e) : zaj P e := fun w n w' hr => absurd hr (h w n w')
theorem zaf {α : Type} (P : Program) (a : α) : zaj P (Pure.pure a : Sem α) := fun w n w' h => by
 simp only [Sem.run_pure, Result.ok.injEq] at h
 obtain ⟨rfl, rfl⟩ := h
 exact ⟨rfl, fun _ => rfl⟩
theorem zgb {α : Type} (P : Program) (h : Halt) : zaj P (Sem.halt h : Sem α) := fun w n w' hr => by simp at hr
theorem zai {α : Type} (P : Program) (s : String) : zaj P (stuck s : Sem α) := zgb P _
theorem zay {α : Type} (P : Program) (s : Unsupported) : zaj P (unsupported s : Sem α) := zgb P _
theorem zbT (P : Program) : zaj P program := fun w n w' h => by
 simp only [run_program, Result.ok.injEq] at h
 obtain ⟨rfl, rfl⟩ := h
 exact ⟨rfl, fun _ => rfl⟩
theorem zaK {α β : Type} {P : Program} {e : Sem α} {f : α → Sem β} {w w' : World} {b : β} (h : (e >>= f).run P w = .ok b w') :
  ∃ a w1, e.run P w = .ok a w1 ∧ (f a).run P w1 = .ok b w' := by
 rw [Sem.run_bind] at h
 cases he : e.run P w with
 | ok a w1 => rw [he] at h; exact ⟨a, w1, rfl, h⟩
 | halt x w1 => rw [he] at h; simp at h
theorem zae {α β : Type} {P : Program} {e : Sem α} {f : α → Sem β} (he : zaj P e) (hf : ∀ a, zaj P (f a)) : zaj P (e >>= f) := fun w n w' h => by
 obtain ⟨a, w1, h1, h2⟩ := zaK h
 obtain ⟨rfl, k1⟩ := he _ _ _ h1
 obtain ⟨rfl, k2⟩ := hf a _ _ _ h2
 exact ⟨rfl, fun w2 => by rw [Sem.run_bind, k1 w2]; exact k2 w2⟩
theorem zbW {α β : Type} {P : Program} {e : Sem α} {f : α → Sem β} (hf : ∀ a, Never P (f a)) : Never P (e >>= f) := fun w n w' h => by
 obtain ⟨a, w1, _, h2⟩ := zaK h; exact hf _ _ _ _ h2
theorem zgI {α : Type} (P : Program) (h : Halt) : Never P (Sem.halt h : Sem α) := fun w n w' hr => by simp at hr
theorem zaG {α : Type} (P : Program) (e : RuntimeError) : Never P (runtimePanic e : Sem α) := by
 unfold runtimePanic
 refine zbW fun p => ?_
 cases e <;> first
  | exact zgI P _
  | exact zbW fun _ => zbW fun _ => zgI P _
theorem zeC {α : Type} (P : Program) (k : IntKind) (x y : Int) (c : BoundsCode) : Never P (boundsPanic k x y c : Sem α) := by
 unfold boundsPanic
 dsimp only
 split
 ·exact zbW fun _ => zaG P _
 ·exact zbW fun _ => zaG P _
theorem zpO {α β : Type} {P : Program} {e : Sem α} {f : α → β} (he : zaj P e) : zaj P (f <$> e) := fun w n w' h => by
 simp only [Sem.run_map] at h
 cases h1 : e.run P w with
 | ok a w1 =>
  rw [h1] at h
  simp only [Result.andThen_ok, Result.ok.injEq] at h
  obtain ⟨rfl, rfl⟩ := h
  obtain ⟨rfl, k⟩ := he _ _ _ h1
  exact ⟨rfl, fun w2 => by simp [k w2]⟩
 | halt x w1 => rw [h1] at h; simp at h
theorem zdX (P : Program) (t : TypeId) : zaj P (typeInfo t) := by
 unfold typeInfo; refine zae (zbT P) fun p => ?_; split
 ·exact zaf P _
 ·exact zai P _
theorem zaq (P : Program) (t : TypeId) : zaj P (underlying t) := by
 unfold underlying; refine zae (zbT P) fun p => ?_; split
 ·exact zaf P _
 ·exact zai P _
theorem zbf (P : Program) (t : TypeId) : zaj P (sizeOf t) := by
 unfold sizeOf; exact zae (zdX P t) fun _ => zaf P _
theorem zgJ (P : Program) (t : TypeId) : zaj P (isAgg t) := by
 unfold isAgg; refine zae (zaq P t) fun d => ?_; split <;> exact zaf P _
theorem zar (P : Program) (t : TypeId) (cs : Array Value) (off : Nat) : zaj P (part t cs off) := by
 unfold part
 refine zae (zgJ P t) fun b => ?_
 split
 ·exact zae (zbf P t) fun _ => zaf P _
 ·split
  ·exact zaf P _
  ·exact zai P _
theorem ziy (P : Program) (v : Value) : zaj P (asIntOf v) := by
 unfold asIntOf; split
 ·exact zaf P _
 ·exact zay P _
 ·exact zai P _
theorem zfm (P : Program) (v : Value) : zaj P (asBool v) := by
 unfold asBool; split
 ·exact zaf P _
 ·exact zai P _
theorem zmf (P : Program) (v : Value) : zaj P (asAgg v) := by
 unfold asAgg; split
 ·exact zaf P _
 ·exact zai P _
theorem zcS (P : Program) (v : Value) : zaj P (Instr.sureAddr v) := by
 unfold Instr.sureAddr; split
 ·exact zaf P _
 ·exact zai P _
theorem zkc (P : Program) (v : Value) : zaj P (asAddr v) := by
 unfold asAddr; split
 ·exact zaf P _
 ·exact .never (zaG P _)
 ·exact zai P _
def zez (P : Program) (s f : Nat) : Bool :=
 match P.underlying s with
 | some (.struct fields) => (match fields[f]? with | some fd => (match P.info? fd.type with | some i => i.size != 0 | none => false) | none => false)
 | _ => false
theorem zhS {P : Program} {t : TypeId} {d : TypeDesc} {w w' : World} (h : (underlying t).run P w = .ok d w') : P.underlying t = some d := by
 unfold underlying at h
 rw [Sem.run_bind] at h
 simp only [run_program, Result.andThen_ok] at h
 split at h
 ·rename_i d' hd; simp only [Sem.run_pure, Result.ok.injEq] at h; rw [hd, h.1]
 ·simp at h
theorem zmW {P : Program} {t : TypeId} {n : Nat} {w w' : World} (h : (sizeOf t).run P w = .ok n w') : ∃ i, P.info? t = some i ∧ i.size = n := by
 unfold sizeOf at h
 obtain ⟨i, w1, h1, h2⟩ := zaK h
 simp only [Sem.run_pure, Result.ok.injEq] at h2
 unfold typeInfo at h1
 rw [Sem.run_bind] at h1
 simp only [run_program, Result.andThen_ok] at h1
 split at h1
 ·rename_i i' hi; simp only [Sem.run_pure, Result.ok.injEq] at h1; exact ⟨i', hi, by rw [h1.1]; exact h2.1⟩
 ·simp at h1
theorem zaY {α β : Type} {P : Program} {e : Sem α} {f : α → Sem β} (he : zaj P e) (hf : ∀ a w w', e.run P w = .ok a w' → zaj P (f a)) : zaj P (e >>= f) := fun w n w' h => by
 obtain ⟨a, w1, h1, h2⟩ := zaK h
 obtain ⟨rfl, k1⟩ := he _ _ _ h1
 obtain ⟨rfl, k2⟩ := hf a _ _ h1 _ _ _ h2
 exact ⟨rfl, fun w2 => by rw [Sem.run_bind, k1 w2]; exact k2 w2⟩
theorem zjg {P : Program} {s : TypeId} {f : Nat} (hz : zez P s f = true) (v : Value) : zaj P (Instr.fieldAt s v f) := by
 unfold Instr.fieldAt
 refine zaY (zaq P s) fun d w w' hd => ?_
 have hu := zhS hd
 split
 ·rename_i fields
  split
  ·rename_i fd hf
   refine zae (zcS P v) fun a => ?_
   refine zae ?_ fun _ => zaf P _
   unfold fieldPlace
   refine zaY (zbf P _) fun n w w' hn => ?_
   obtain ⟨i, hi, hin⟩ := zmW hn
   split
   ·rename_i h0
    simp [zez, hu, hf, hi, hin, h0] at hz
   ·exact zaf P _
  ·exact zai P _
 ·exact zai P _
theorem zam {α : Type} {P : Program} {c : Prop} [Decidable c] {x y : Sem α} (hx : zaj P x) (hy : zaj P y) : zaj P (if c then x else y) := by
 split
 ·exact hx
 ·exact hy
theorem zjY {α : Type} (P : Program) (k : IntKind) (x y : Int) (c : BoundsCode) : zaj P (boundsPanic k x y c : Sem α) := .never (zeC P k x y c)
theorem ztp {α : Type} (P : Program) (e : RuntimeError) : zaj P (runtimePanic e : Sem α) := .never (zaG P e)
theorem CLM {p : Prop} (h : p := by first | with_reducible exact zaf _ _ | with_reducible exact zai _ _ | with_reducible exact zay _ _ | with_reducible exact zgb _ _ | with_reducible exact zjY _ _ _ _ _ | with_reducible exact ztp _ _ | with_reducible exact ziy _ _ | with_reducible exact zfm _ _ | with_reducible exact zmf _ _ | with_reducible exact zaq _ _ | with_reducible exact zcS _ _ | with_reducible exact zkc _ _ | with_reducible exact zbf _ _) : p := h
theorem zjn (P : Program) (t : TypeId) (x ix : Value) : zaj P (Instr.indexAt t x ix) := by
 unfold Instr.indexAt
 repeat' (first | exact CLM | with_reducible exact zar P _ _ _ | with_reducible refine zae ?_ (fun _ => ?_) | with_reducible refine zam ?_ ?_ | split | dsimp only)
theorem zmw (P : Program) (t : TypeId) (x ix : Value) : zaj P (Instr.index t x ix) := by
 unfold Instr.index
 repeat' (first | exact CLM | with_reducible exact zar P _ _ _ | with_reducible refine zae ?_ (fun _ => ?_) | with_reducible refine zam ?_ ?_ | split | dsimp only)
theorem zma (P : Program) (t : TypeId) (x : Value) (f : Nat) : zaj P (Instr.field t x f) := by
 unfold Instr.field
 repeat' (first | exact CLM | with_reducible exact zar P _ _ _ | with_reducible refine zae ?_ (fun _ => ?_) | with_reducible refine zam ?_ ?_ | split | dsimp only)
theorem zjd (P : Program) (x : Value) (i : Nat) : zaj P (Instr.extract x i) := by
 unfold Instr.extract
 repeat' (first | exact CLM | with_reducible exact zar P _ _ _ | with_reducible refine zae ?_ (fun _ => ?_) | with_reducible refine zam ?_ ?_ | split | dsimp only)
theorem zet (P : Program) (t : TypeId) (x : Value) : zaj P (Instr.makeInterface t x) := by
 unfold Instr.makeInterface
 repeat' (first | exact CLM | with_reducible exact zar P _ _ _ | with_reducible refine zae ?_ (fun _ => ?_) | with_reducible refine zam ?_ ?_ | split | dsimp only)
theorem zga (P : Program) (x : Value) (y : Nat) (c : BoundsCode) : zaj P (Instr.sliceBound x y c) := by
 unfold Instr.sliceBound
 repeat' (first | exact CLM | with_reducible exact zar P _ _ _ | with_reducible refine zae ?_ (fun _ => ?_) | with_reducible refine zam ?_ ?_ | split | dsimp only)
theorem zdc (P : Program) (b : Bool) (len cap : Nat) (lo hi mx : Option Value) : zaj P (Instr.sliceBounds b len cap lo hi mx) := by
 unfold Instr.sliceBounds
 repeat' (first | exact CLM | with_reducible exact zga P _ _ _ | with_reducible exact zar P _ _ _ | with_reducible refine zae ?_ (fun _ => ?_) | with_reducible refine zam ?_ ?_ | split | dsimp only)
theorem zme (P : Program) (t : TypeId) (x : Value) (lo hi mx : Option Value) : zaj P (Instr.slice t x lo hi mx) := by
 unfold Instr.slice
 repeat' (first | exact CLM | with_reducible exact zdc P _ _ _ _ _ _ | with_reducible exact zar P _ _ _ | with_reducible refine zae ?_ (fun _ => ?_) | with_reducible refine zam ?_ ?_ | split | dsimp only)
theorem ziA (P : Program) (t : TypeId) (x : Value) (lo hi mx : Option Value) : zaj P (Instr.sliceAt t x lo hi mx) := by
 unfold Instr.sliceAt
 repeat' (first | exact CLM | with_reducible exact zdc P _ _ _ _ _ _ | with_reducible exact zme P _ _ _ _ _ | with_reducible exact zar P _ _ _ | with_reducible refine zae ?_ (fun _ => ?_) | with_reducible refine zam ?_ ?_ | split | dsimp only)
theorem zhg (P : Program) (op : BinOp) (a b : ByteArray) : zaj P (Op.stringOp op a b) := by
 unfold Op.stringOp
 repeat' (first | exact CLM | with_reducible exact zar P _ _ _ | with_reducible refine zae ?_ (fun _ => ?_) | with_reducible refine zam ?_ ?_ | split | dsimp only)
theorem zaO (P : Program) (op : BinOp) (k : IntKind) (a b : Int) : zaj P (Op.intArith op k a b) := by
 unfold Op.intArith
 repeat' (first | exact CLM | with_reducible exact zar P _ _ _ | with_reducible refine zae ?_ (fun _ => ?_) | with_reducible refine zam ?_ ?_ | split | dsimp only)
theorem zaR (P : Program) (op : BinOp) (k : IntKind) (a b : Int) : zaj P (Op.intBits op k a b) := by
 unfold Op.intBits
 repeat' (first | exact CLM | with_reducible exact zar P _ _ _ | with_reducible refine zae ?_ (fun _ => ?_) | with_reducible refine zam ?_ ?_ | split | dsimp only)
theorem calm_shift (P : Program) (op : BinOp) (k k' : IntKind) (a b : Int) : zaj P (Op.shift op k a k' b) := by
 unfold Op.shift
 repeat' (first | exact CLM | with_reducible exact zaO P _ _ _ _ | with_reducible exact zaR P _ _ _ _ | with_reducible exact zar P _ _ _ | with_reducible refine zae ?_ (fun _ => ?_) | with_reducible refine zam ?_ ?_ | split | dsimp only)
theorem zfX (P : Program) (op : BinOp) (k : IntKind) (a b : Int) : zaj P (Op.intDiv op k a b) := by
 unfold Op.intDiv
 repeat' (first | exact CLM | with_reducible exact zaO P _ _ _ _ | with_reducible exact zaR P _ _ _ _ | with_reducible exact zar P _ _ _ | with_reducible refine zae ?_ (fun _ => ?_) | with_reducible refine zam ?_ ?_ | split | dsimp only)
theorem zjS (P : Program) (op : BinOp) (a b : Int) : zaj P (Op.intCmp op a b) := by
 unfold Op.intCmp
 repeat' (first | exact CLM | with_reducible exact zaO P _ _ _ _ | with_reducible exact zaR P _ _ _ _ | with_reducible exact zar P _ _ _ | with_reducible refine zae ?_ (fun _ => ?_) | with_reducible refine zam ?_ ?_ | split | dsimp only)
theorem zjy (P : Program) (op : BinOp) (t : TypeId) (k k' : IntKind) (a b : Int) : zaj P (binOp op t (.int k a) (.int k' b)) := by
 cases op
 case shl => exact (calm_shift P .shl k k' a b : zaj P (Op.shift .shl k a k' b))
 case shr => exact (calm_shift P .shr k k' a b : zaj P (Op.shift .shr k a k' b))
 case add => exact zam (zai P _) (zaO P _ _ _ _)
 case sub => exact zam (zai P _) (zaO P _ _ _ _)
 case mul => exact zam (zai P _) (zaO P _ _ _ _)
 case quo => exact zam (zai P _) (zfX P _ _ _ _)
 case rem => exact zam (zai P _) (zfX P _ _ _ _)
 case and => exact zam (zai P _) (zaR P _ _ _ _)
 case or => exact zam (zai P _) (zaR P _ _ _ _)
 case xor => exact zam (zai P _) (zaR P _ _ _ _)
 case andNot => exact zam (zai P _) (zaR P _ _ _ _)
 all_goals exact zam (zai P _) (zjS P _ _ _)
theorem zgm (P : Program) (op : BinOp) (t : TypeId) (a b : ByteArray) : zaj P (binOp op t (.string a) (.string b)) := by
 have h : binOp op t (.string a) (.string b) = Op.stringOp op a b := by cases op <;> rfl
 rw [h]; exact zhg P op a b
theorem zdv (P : Program) (t : TypeId) (a b : Bool) : zaj P (Op.equal t (.bool a) (.bool b)) := by
 unfold Op.equal Op.maxDepth
 have h : Op.equalIn 10000 t (.bool a) (.bool b) = (do
   match ← underlying t with
   | .bool => pure (a == b)
   | _ => stuck "==: the operands do not fit the type, or the type is not comparable") := by
  show (underlying t >>= fun d => _) = (underlying t >>= fun d => _)
  congr 1
  funext d
  cases d <;> rfl
 rw [h]
 repeat' (first | exact CLM | with_reducible exact zaO P _ _ _ _ | with_reducible exact zaR P _ _ _ _ | with_reducible exact zar P _ _ _ | with_reducible refine zae ?_ (fun _ => ?_) | with_reducible refine zam ?_ ?_ | split | dsimp only)
theorem ziV (P : Program) (op : BinOp) (t : TypeId) (a b : Bool) : zaj P (binOp op t (.bool a) (.bool b)) := by
 cases op
 case eql => exact zae (zdv P t a b) fun _ => zaf P _
 case neq => exact zae (zdv P t a b) fun _ => zaf P _
 all_goals exact zai P _
theorem zmq (P : Program) (op : UnOp) (x : Value) : zaj P (Op.unary op x) := by
 unfold Op.unary
 repeat' (first | exact CLM | with_reducible exact zaO P _ _ _ _ | with_reducible exact zaR P _ _ _ _ | with_reducible exact zar P _ _ _ | with_reducible refine zae ?_ (fun _ => ?_) | with_reducible refine zam ?_ ?_ | split | dsimp only)
theorem zgt (P : Program) (s d : TypeId) (k : IntKind) (n : Int) : zaj P (Conv.unsafePointer s d (.int k n)) := by
 unfold Conv.unsafePointer
 refine zae (zaq P s) fun ds => ?_
 refine zae (zaq P d) fun dd => ?_
 cases ds <;> cases dd <;> first | exact zai P _ | (dsimp only; split <;> first | contradiction | exact zay P _ | exact zai P _)
theorem zfI (P : Program) (s d : TypeId) (k : IntKind) (n : Int) : zaj P (convert s d (.int k n)) := by
 unfold convert
 refine zae (zaq P s) fun ds => ?_
 refine zae (zaq P d) fun dd => ?_
 cases ds <;> cases dd <;> first | exact zaf P _ | exact zay P _ | exact zai P _ | exact zgt P s d k n
theorem zqG (P : Program) (ats : Array TypeId) (t : TypeId) (x : Value) (hx : (match x with | .string _ | .slice .. => true | _ => false) = true) :
  zaj P (Builtin.len_ ats t #[x]) := by
 unfold Builtin.len_
 cases hu : ats[0]? with
 | none => exact zai P _
 | some u =>
  refine zae (zaq P u) fun d => ?_
  cases x <;> simp only [Bool.false_eq_true] at hx <;> cases d <;> first | exact zaf P _ | exact zai P _ | (refine zae (zaq P _) fun d' => ?_; cases d' <;> first | exact zaf P _ | exact zai P _)
theorem zgn (P : Program) (t : TypeId) : zaj P (zeroValue t) := by
 unfold zeroValue; refine zae (zdX P t) fun i => ?_; split
 ·exact zaf P _
 ·exact zay P _
theorem zev {α β : Type} {P : Program} (f : α → Sem β) (hf : ∀ a, zaj P (f a)) : ∀ (l : List α), zaj P (l.mapM f)
 | [] => by rw [List.mapM_nil]; exact zaf P _
 | a :: l => by rw [List.mapM_cons]; exact zae (hf a) fun _ => zae (zev f hf l) fun _ => zaf P _
theorem zmU {α β : Type} {P : Program} (f : α → Sem β) (hf : ∀ a, zaj P (f a)) (as : Array α) : zaj P (as.mapM f) := by
 rw [Array.mapM_eq_mapM_toList]; exact zpO (zev f hf _)
theorem zmk (P : Program) (t : TypeId) (parts : Array (Nat × Value)) : zaj P (Instr.build t parts) := by
 unfold Instr.build
 refine zae (zgn P t) fun z => ?_
 refine zae (zaq P t) fun d => ?_
 split
 ·refine zae (zmU _ (fun f => zae (zbf P _) fun _ => zaf P _) _) fun _ => ?_
  split
  ·exact zaf P _
  ·exact zai P _
 ·refine zae (zbf P _) fun _ => ?_
  split
  ·exact zaf P _
  ·exact zai P _
 ·exact zai P _
inductive OpKind where
 | pure | read | other
 deriving DecidableEq
theorem zcF {α β : Type} {P : Program} (f : α → β → Sem (ForInStep β)) (h : ∀ a b, zaj P (f a b)) : ∀ (l : List α) (b : β), zaj P (forIn l b f)
 | [], b => by rw [List.forIn_nil]; exact zaf P _
 | a :: l, b => by
  rw [List.forIn_cons]
  refine zae (h a b) fun s => ?_
  cases s with
  | done b => exact zaf P _
  | yield b => exact zcF f h l b
def intsB (a : Array Value) : Bool := a.toList.all fun v => match v with | .int .. => true | _ => false
def Ints_ (v : Value) : Prop := (∃ k n, v = .int k n) ∨ ∃ cs, v = .agg cs ∧ intsB cs = true
theorem zbV {P : Program} {t : TypeId} {cs : Array Value} {off : Nat} {w w' : World} {v : Value} (hc : intsB cs = true) (h : (part t cs off).run P w = .ok v w') : Ints_ v := by
 unfold part at h
 obtain ⟨b, w1, h1, h2⟩ := zaK h
 split at h2
 ·obtain ⟨n, w2, h3, h4⟩ := zaK h2
  simp only [Sem.run_pure, Result.ok.injEq] at h4
  obtain ⟨rfl, rfl⟩ := h4
  refine .inr ⟨_, rfl, ?_⟩
  unfold intsB at hc ⊢
  rw [List.all_eq_true] at hc ⊢
  intro x hx
  refine hc x ?_
  rw [Array.toList_extract] at hx
  exact List.mem_of_mem_drop (List.mem_of_mem_take (by simpa [List.extract] using hx))
 ·split at h2
  ·rename_i u hu
   simp only [Sem.run_pure, Result.ok.injEq] at h2
   obtain ⟨rfl, rfl⟩ := h2
   unfold intsB at hc
   rw [List.all_eq_true] at hc
   have := hc u (by
    obtain ⟨hi, e⟩ := Array.getElem?_eq_some_iff.1 hu
    rw [← e]; exact Array.getElem_mem_toList hi)
   cases u <;> first | exact .inl ⟨_, _, rfl⟩ | cases this
  ·simp at h2
theorem zcu {P : Program} : ∀ (d : Nat) (t : TypeId) (x y : Value), Ints_ x → Ints_ y → zaj P (Op.equalIn d t x y)
 | 0, t, x, y, _, _ => by unfold Op.equalIn; exact zay P _
 | d + 1, t, x, y, hx, hy => by
  unfold Op.equalIn
  refine zae (zaq P t) fun u => ?_
  rcases hx with ⟨k, n, rfl⟩ | ⟨xs, rfl, hxs⟩ <;> rcases hy with ⟨k', n', rfl⟩ | ⟨ys, rfl, hys⟩ <;> cases u <;> try exact zai P _
  ·exact zam (zaf P _) (zai P _)
  ·dsimp only
   refine zae (zbf P _) fun n => ?_
   refine zae ?_ fun s => ?_
   ·rw [Std.Legacy.Range.forIn_eq_forIn_range']
    refine zcF _ (fun i s => ?_) _ _
    refine zaY (zar P _ _ _) fun a w w' ha => ?_
    refine zaY (zar P _ _ _) fun b w w' hb => ?_
    refine zae (zcu d _ a b (zbV hxs ha) (zbV hys hb)) fun c => ?_
    exact zam (zaf P _) (zaf P _)
   ·split
    ·exact zaf P _
    ·exact zaf P _
  ·dsimp only
   refine zae (zbT P) fun p => zam (zae (zay P _) fun _ => ?_) ?_
   all_goals
    refine zae ?_ fun s => ?_
    ·rw [← Array.forIn_toList]
     refine zcF _ (fun f s => ?_) _ _
     refine zam ?_ (zaf P _)
     refine zaY (zar P _ _ _) fun a w w' ha => ?_
     refine zaY (zar P _ _ _) fun b w w' hb => ?_
     refine zae (zcu d _ a b (zbV hxs ha) (zbV hys hb)) fun c => ?_
     exact zam (zaf P _) (zaf P _)
    ·split
     ·exact zaf P _
     ·exact zaf P _
theorem zcw {P : Program} : ∀ (d : Nat) (t : TypeId) (x y : Value), Ints_ x → Ints_ y → zaj P (Op.eqGuardIn d t x y)
 | 0, t, x, y, _, _ => by unfold Op.eqGuardIn; exact zay P _
 | d + 1, t, x, y, hx, hy => by
  unfold Op.eqGuardIn
  refine zae (zaq P t) fun u => ?_
  rcases hx with ⟨k, n, rfl⟩ | ⟨xs, rfl, hxs⟩ <;> rcases hy with ⟨k', n', rfl⟩ | ⟨ys, rfl, hys⟩ <;> cases u <;> try exact zaf P _
  ·dsimp only
   refine zae (zbf P _) fun n => ?_
   refine zae ?_ fun s => ?_
   ·rw [Std.Legacy.Range.forIn_eq_forIn_range']
    refine zcF _ (fun i s => ?_) _ _
    refine zaY (zar P _ _ _) fun a w w' ha => ?_
    refine zaY (zar P _ _ _) fun b w w' hb => ?_
    refine zae (zcw d _ a b (zbV hxs ha) (zbV hys hb)) fun c => ?_
    exact zam (zaf P _) (zaf P _)
   ·split
    ·exact zaf P _
    ·exact zaf P _
  ·dsimp only
   all_goals
    refine zae ?_ fun s => ?_
    ·rw [← Array.forIn_toList]
     refine zcF _ (fun f s => ?_) _ _
     refine zam ?_ (zaf P _)
     refine zaY (zar P _ _ _) fun a w w' ha => ?_
     refine zaY (zar P _ _ _) fun b w w' hb => ?_
     refine zae (zcw d _ a b (zbV hxs ha) (zbV hys hb)) fun c => ?_
     exact zam (zaf P _) (zaf P _)
    ·split
     ·exact zaf P _
     ·exact zaf P _
theorem zjx (P : Program) (op : BinOp) (t : TypeId) (a b : Array Value) (ha : intsB a = true) (hb : intsB b = true) : zaj P (binOp op t (.agg a) (.agg b)) := by
 cases op
 case eql => exact zae (zcu _ t _ _ (.inr ⟨_, rfl, ha⟩) (.inr ⟨_, rfl, hb⟩)) fun _ => zaf P _
 case neq => exact zae (zcu _ t _ _ (.inr ⟨_, rfl, ha⟩) (.inr ⟨_, rfl, hb⟩)) fun _ => zaf P _
 all_goals exact zai P _
theorem zgd (P : Program) (op : BinOp) (t : TypeId) (x y : Operand) (a b : Array Value) (ha : intsB a = true) (hb : intsB b = true) : zaj P (eqGuard op t x y (.agg a) (.agg b)) := by
 have h : zaj P (do
   if !((← program).eqGuardType (← program).depth t) then return
   if ← Op.eqGuardIn Op.maxDepth t (.agg a) (.agg b) then unsupported (.noEntry "binop/eql: two nil values of an interface type with methods, in a part of a struct or an array")) := by
  refine zae (zbT P) fun p => zae (zbT P) fun q => ?_
  refine zam (zaf P _) (zae (zcw _ t _ _ (.inr ⟨_, rfl, ha⟩) (.inr ⟨_, rfl, hb⟩)) fun c => zam (zay P _) (zaf P _))
 cases op
 case eql => exact h
 case neq => exact h
 all_goals exact zaf P _
def zau (P : Program) (o : Oper) : OpKind :=
 match o.op with
 | .binOp .eql t _ _ _ => (match P.underlying t with | some (.struct _) => .other | _ => .pure)
 | .binOp .neq t _ _ _ => (match P.underlying t with | some (.struct _) => .other | _ => .pure)
 | .move _ | .assign _ | .pick .. | .build .. | .nilCheck _ | .binOp .. | .unOp .. | .slice .. | .field .. | .indexAddr .. | .index .. | .extract .. | .makeInterface .. | .makeFunc .. => .pure
 | .fieldAddr s _ f => if zez P s f then .pure else .other
 | .call { callee := .builtin .len, args, .. } => if args.size = 1 then .pure else .other
 | .call { callee := .builtin .min, args, .. } => if args.size = 2 then .pure else .other
 | .call { callee := .builtin .max, args, .. } => if args.size = 2 then .pure else .other
 | .load .. => .read
 | .convert s _ _ => (match P.underlying s with | some (.int _) => .pure | _ => .other)
 | _ => .other
def zbq (ρ : Operand → Value) (o : Oper) : Bool :=
 match o.op with
 | .nilCheck x => (match ρ x with | .func .. => false | _ => true)
 | .binOp _ _ x y _ => (match ρ x, ρ y with | .int .., .int .. => true | .string _, .string _ => true | .bool _, .bool _ => true | .agg a, .agg b => intsB a && intsB b | _, _ => false)
 | .convert _ _ x => (match ρ x with | .int .. => true | _ => false)
 | .call { callee := .builtin .len, args, .. } => (match ρ (args.getD 0 (.const undef)) with | .string _ | .slice .. => true | _ => false)
 | .call { callee := .builtin .min, args, .. } => (match ρ (args.getD 0 (.const undef)), ρ (args.getD 1 (.const undef)) with | .int .., .int .. => true | _, _ => false)
 | .call { callee := .builtin .max, args, .. } => (match ρ (args.getD 0 (.const undef)), ρ (args.getD 1 (.const undef)) with | .int .., .int .. => true | _, _ => false)
 | _ => true
def CalmV (P : Program) (e : Sem Next) : Prop := ∀ w n w', e.run P w = .ok n w' → ∃ v, n = .value v ∧ w' = w ∧ ∀ w2, e.run P w2 = .ok (.value v) w2
theorem zaM {P : Program} {s : Sem Value} (h : zaj P s) : CalmV P (do Pure.pure (Next.value (← s))) := fun w n w' hr => by
 obtain ⟨v, w1, h1, h2⟩ := zaK hr
 obtain ⟨rfl, k⟩ := h _ _ _ h1
 simp only [Sem.run_pure, Result.ok.injEq] at h2
 obtain ⟨rfl, rfl⟩ := h2
 exact ⟨v, rfl, rfl, fun w2 => by rw [Sem.run_bind, k w2]; rfl⟩
theorem zdt (P : Program) (v : Value) : CalmV P (Pure.pure (Next.value v)) := fun w n w' h => by
 simp only [Sem.run_pure, Result.ok.injEq] at h
 obtain ⟨rfl, rfl⟩ := h
 exact ⟨v, rfl, rfl, fun _ => rfl⟩
theorem zfw {P : Program} {e : Sem Next} (h : Never P e) : CalmV P e := fun w n w' hr => absurd hr (h w n w')
theorem zdh (P : Program) (op : BinOp) (t : TypeId) (x y : Operand) (a b : Value) (h : (match a, b with | .int .., .int .. => true | .string _, .string _ => true | .bool _, .bool _ => true | _, _ => false) = true) :
  zaj P (eqGuard op t x y a b) := by
 cases a <;> cases b <;> simp only [Bool.false_eq_true] at h <;> cases op <;> exact zaf P _
theorem zfz {P : Program} {ρ : Operand → Value} {o : Oper} (hk : zau P o = .pure) (hc : zbq ρ o = true) : CalmV P (execOp ρ o) := by
 obtain ⟨dst, op, type, pos, after, guard⟩ := o
 cases op <;> simp only [zau, reduceCtorEq] at hk <;> simp only [zbq] at hc <;> simp only [execOp]
 case move x => exact zdt P _
 case assign x => exact zdt P _
 case pick c a b =>
  intro w n w' hr
  obtain ⟨v, w1, h1, h2⟩ := zaK hr
  obtain ⟨rfl, k⟩ := zfm P _ _ _ _ h1
  simp only [Sem.run_pure, Result.ok.injEq] at h2
  obtain ⟨rfl, rfl⟩ := h2
  exact ⟨_, rfl, rfl, fun w2 => by rw [Sem.run_bind, k w2]; rfl⟩
 case nilCheck x =>
  cases hx : ρ x <;> simp only [hx] at hc ⊢ <;> first
   | exact zdt P _
   | exact zfw (zaG P _)
   | (rename_i q; cases q <;> first | exact zdt P _ | exact zfw (zaG P _))
   | cases hc
 case binOp op xt x y yt =>
  cases hx : ρ x <;> cases hy : ρ y <;> simp only [hx, hy, Bool.false_eq_true, Bool.and_eq_true] at hc
  ·exact zaM (zae (zdh P _ _ _ _ _ _ rfl) fun _ => ziV P _ _ _ _)
  ·exact zaM (zae (zdh P _ _ _ _ _ _ rfl) fun _ => zjy P _ _ _ _ _ _)
  ·exact zaM (zae (zdh P _ _ _ _ _ _ rfl) fun _ => zgm P _ _ _ _)
  ·exact zaM (zae (zgd P _ _ _ _ _ _ hc.1 hc.2) fun _ => zjx P _ _ _ _ hc.1 hc.2)
 case unOp op t x => exact zaM (zmq P _ _)
 case build t ps => exact zaM (zmk P _ _)
 case convert s d x =>
  cases hx : ρ x <;> simp only [hx, Bool.false_eq_true] at hc
  exact zaM (zfI P _ _ _ _)
 case slice t x lo hi mx => exact zaM (ziA P _ _ _ _ _)
 case fieldAddr s x f =>
  split at hk
  ·rename_i h; exact zaM (zjg h _)
  ·cases hk
 case field t x f => exact zaM (zma P _ _ _)
 case indexAddr t x i => exact zaM (zjn P _ _ _)
 case index t x i => exact zaM (zmw P _ _ _)
 case makeInterface t x => exact zaM (zet P _ _)
 case makeFunc fn a b => exact zaM (zaf P _)
 case extract t i => exact zaM (zjd P _ _)
 case call c =>
  obtain ⟨callee, args, ats⟩ := c
  cases callee with
  | value f => cases hk
  | invoke r m => cases hk
  | builtin b =>
   cases b <;> simp only [reduceCtorEq] at hk
   case len =>
    split at hk
    ·rename_i hs
     obtain ⟨x, rfl⟩ : ∃ x, args = #[x] := Array.size_eq_one_iff.1 hs
     show CalmV P (do Pure.pure (Next.value (← Builtin.len_ ats type ((#[x] : Array Operand).map ρ))))
     rw [show (#[x] : Array Operand).map ρ = #[ρ x] from by simp]
     exact zaM (zqG P _ _ _ hc)
    ·cases hk
   case max =>
    split at hk
    ·rename_i hs
     obtain ⟨x, y, rfl⟩ : ∃ x y, args = #[x, y] := by
      obtain ⟨l⟩ := args
      match l, hs with
      | [x, y], _ => exact ⟨x, y, rfl⟩
     simp only [Array.getD_eq_getD_getElem?, List.getElem?_toArray, List.getElem?_cons_zero, List.getElem?_cons_succ, Option.getD_some] at hc
     cases hx : ρ x <;> cases hy : ρ y <;> simp only [hx, hy, Bool.false_eq_true] at hc
     rename_i k1 n1 k2 n2
     show CalmV P (do Pure.pure (Next.value (← Builtin.max_ ats type ((#[x, y] : Array Operand).map ρ))))
     rw [show (#[x, y] : Array Operand).map ρ = #[ρ x, ρ y] from by simp, hx, hy]
     exact zaM (zaf P _)
    ·cases hk
   case min =>
    split at hk
    ·rename_i hs
     obtain ⟨x, y, rfl⟩ : ∃ x y, args = #[x, y] := by
      obtain ⟨l⟩ := args
      match l, hs with
      | [x, y], _ => exact ⟨x, y, rfl⟩
     simp only [Array.getD_eq_getD_getElem?, List.getElem?_toArray, List.getElem?_cons_zero, List.getElem?_cons_succ, Option.getD_some] at hc
     cases hx : ρ x <;> cases hy : ρ y <;> simp only [hx, hy, Bool.false_eq_true] at hc
     rename_i k1 n1 k2 n2
     show CalmV P (do Pure.pure (Next.value (← Builtin.min_ ats type ((#[x, y] : Array Operand).map ρ))))
     rw [show (#[x, y] : Array Operand).map ρ = #[ρ x, ρ y] from by simp, hx, hy]
     exact zaM (zaf P _)
    ·cases hk
def Looks {α : Type} (P : Program) (e : Sem α) : Prop := ∀ w n w', e.run P w = .ok n w' → w' = w
theorem zgW (P : Program) (a : Addr) : Looks P (load a) := fun w n w' h => by
 rw [run_load] at h
 split at h
 ·simp only [Result.ok.injEq] at h; exact h.2.symm
 ·split at h
  ·simp only [Result.ok.injEq] at h; exact h.2.symm
  ·simp at h
theorem zek {α : Type} {P : Program} {e : Sem α} (h : zaj P e) : Looks P e := fun w n w' hr => (h w n w' hr).1
theorem zcE {α β : Type} {P : Program} {e : Sem α} {f : α → Sem β} (he : Looks P e) (hf : ∀ a, Looks P (f a)) : Looks P (e >>= f) := fun w n w' h => by
 obtain ⟨a, w1, h1, h2⟩ := zaK h
 obtain rfl := he _ _ _ h1
 exact hf _ _ _ _ h2
theorem zfP (P : Program) (a : Addr) : ∀ (n i : Nat) (acc : Array Value), Looks P (loadCellsFrom a i n acc)
 | 0, i, acc => zek (zaf P _)
 | n + 1, i, acc => zcE (zgW P _) fun v => zfP P a n (i + 1) _
theorem zhl (P : Program) (t : TypeId) (a : Addr) : Looks P (loadVar t a) := by
 unfold loadVar
 refine zcE (zek (zgJ P t)) fun b => ?_
 split
 ·exact zcE (zek (zbf P t)) fun n => zcE (zfP P a _ _ _) fun _ => zek (zaf P _)
 ·exact zgW P a
theorem zgT {P : Program} {ρ : Operand → Value} {o : Oper} (hk : zau P o = .read) : ∀ w n w', (execOp ρ o).run P w = .ok n w' → w' = w ∧ ∃ v, n = .value v := by
 obtain ⟨dst, op, type, pos, after, guard⟩ := o
 intro w n w' h
 cases op <;> simp only [zau, reduceCtorEq] at hk
 case load t a =>
  simp only [execOp] at h
  obtain ⟨v, w1, h1, h2⟩ := zaK h
  have : Looks P (Instr.loadAt t (ρ a)) := zcE (zek (zcS P _)) fun _ => zhl P t _
  obtain rfl := this _ _ _ h1
  simp only [Sem.run_pure, Result.ok.injEq] at h2
  exact ⟨h2.2.symm, v, h2.1.symm⟩
 case fieldAddr s x f => split at hk <;> cases hk
 case binOp b t x y yt => cases b <;> simp only [reduceCtorEq] at hk <;> (split at hk <;> cases hk)
 case convert s d x => split at hk <;> cases hk
 case call c =>
  obtain ⟨callee, args, ats⟩ := c
  cases callee with
  | value f => cases hk
  | invoke r m => cases hk
  | builtin b => cases b <;> simp only [reduceCtorEq] at hk <;> (split at hk <;> cases hk)
end Go.Pw
