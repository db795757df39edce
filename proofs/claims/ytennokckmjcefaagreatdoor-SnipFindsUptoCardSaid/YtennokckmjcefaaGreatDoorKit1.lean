/- Helper lemmas that the proved statement rests on; no conditions of their own. -/
import Derived.WalkKit
import Derived.Deep.QuietTactic
set_option linter.unusedVariables false
namespace Go.Pw
open Go
def CalmAt {α : Type} (P : Program) (e : Sem α) : Prop :=
 ∀ w n w', e.run P w = .ok n w' → w' = w ∧ ∀ w2, e.run P w2 = .ok n w2
def Never {α : Type} (P : Program) (e : Sem α) : Prop := ∀ w n w', e.run P w ≠ .ok n w'
theorem CalmAt.never {α : Type} {P : Program} {e : Sem α} (h : Never P e) : CalmAt P e := fun w n w' hr => absurd hr (h w n w')
theorem zae {α : Type} (P : Program) (a : α) : CalmAt P (Pure.pure a : Sem α) := fun w n w' h => by
 simp only [Sem.run_pure, Result.ok.injEq] at h
 obtain ⟨rfl, rfl⟩ := h
 exact ⟨rfl, fun _ => rfl⟩
theorem zfs {α : Type} (P : Program) (h : Halt) : CalmAt P (Sem.halt h : Sem α) := fun w n w' hr => by simp at hr
theorem zai {α : Type} (P : Program) (s : String) : CalmAt P (stuck s : Sem α) := zfs P _
theorem zau {α : Type} (P : Program) (s : Unsupported) : CalmAt P (unsupported s : Sem α) := zfs P _
theorem zbA (P : Program) : CalmAt P program := fun w n w' h => by
 simp only [run_program, Result.ok.injEq] at h
 obtain ⟨rfl, rfl⟩ := h
 exact ⟨rfl, fun _ => rfl⟩
theorem zaL {α β : Type} {P : Program} {e : Sem α} {f : α → Sem β} {w w' : World} {b : β} (h : (e >>= f).run P w = .ok b w') :
  ∃ a w1, e.run P w = .ok a w1 ∧ (f a).run P w1 = .ok b w' := by
 rw [Sem.run_bind] at h
 cases he : e.run P w with
 | ok a w1 => rw [he] at h; exact ⟨a, w1, rfl, h⟩
 | halt x w1 => rw [he] at h; simp at h
theorem zad {α β : Type} {P : Program} {e : Sem α} {f : α → Sem β} (he : CalmAt P e) (hf : ∀ a, CalmAt P (f a)) : CalmAt P (e >>= f) := fun w n w' h => by
 obtain ⟨a, w1, h1, h2⟩ := zaL h
 obtain ⟨rfl, k1⟩ := he _ _ _ h1
 obtain ⟨rfl, k2⟩ := hf a _ _ _ h2
 exact ⟨rfl, fun w2 => by rw [Sem.run_bind, k1 w2]; exact k2 w2⟩
theorem zbD {α β : Type} {P : Program} {e : Sem α} {f : α → Sem β} (hf : ∀ a, Never P (f a)) : Never P (e >>= f) := fun w n w' h => by
 obtain ⟨a, w1, _, h2⟩ := zaL h; exact hf _ _ _ _ h2
theorem zfX {α : Type} (P : Program) (h : Halt) : Never P (Sem.halt h : Sem α) := fun w n w' hr => by simp at hr
theorem zaF {α : Type} (P : Program) (e : RuntimeError) : Never P (runtimePanic e : Sem α) := by
 unfold runtimePanic
 refine zbD fun p => ?_
 cases e <;> first
  | exact zfX P _
  | exact zbD fun _ => zbD fun _ => zfX P _
theorem zdZ {α : Type} (P : Program) (k : IntKind) (x y : Int) (c : BoundsCode) : Never P (boundsPanic k x y c : Sem α) := by
 unfold boundsPanic
 dsimp only
 split
 ·exact zbD fun _ => zaF P _
 ·exact zbD fun _ => zaF P _
theorem znK {α β : Type} {P : Program} {e : Sem α} {f : α → β} (he : CalmAt P e) : CalmAt P (f <$> e) := fun w n w' h => by
 simp only [Sem.run_map] at h
 cases h1 : e.run P w with
 | ok a w1 =>
  rw [h1] at h
  simp only [Result.andThen_ok, Result.ok.injEq] at h
  obtain ⟨rfl, rfl⟩ := h
  obtain ⟨rfl, k⟩ := he _ _ _ h1
  exact ⟨rfl, fun w2 => by simp [k w2]⟩
 | halt x w1 => rw [h1] at h; simp at h
theorem zdB (P : Program) (t : TypeId) : CalmAt P (typeInfo t) := by
 unfold typeInfo; refine zad (zbA P) fun p => ?_; split
 ·exact zae P _
 ·exact zai P _
theorem zap (P : Program) (t : TypeId) : CalmAt P (underlying t) := by
 unfold underlying; refine zad (zbA P) fun p => ?_; split
 ·exact zae P _
 ·exact zai P _
theorem zbd (P : Program) (t : TypeId) : CalmAt P (sizeOf t) := by
 unfold sizeOf; exact zad (zdB P t) fun _ => zae P _
theorem zfY (P : Program) (t : TypeId) : CalmAt P (isAgg t) := by
 unfold isAgg; refine zad (zap P t) fun d => ?_; split <;> exact zae P _
theorem zaq (P : Program) (t : TypeId) (cs : Array Value) (off : Nat) : CalmAt P (part t cs off) := by
 unfold part
 refine zad (zfY P t) fun b => ?_
 split
 ·exact zad (zbd P t) fun _ => zae P _
 ·split
  ·exact zae P _
  ·exact zai P _
theorem zhr (P : Program) (v : Value) : CalmAt P (asIntOf v) := by
 unfold asIntOf; split
 ·exact zae P _
 ·exact zau P _
 ·exact zai P _
theorem zeI (P : Program) (v : Value) : CalmAt P (asBool v) := by
 unfold asBool; split
 ·exact zae P _
 ·exact zai P _
theorem zku (P : Program) (v : Value) : CalmAt P (asAgg v) := by
 unfold asAgg; split
 ·exact zae P _
 ·exact zai P _
theorem zcz (P : Program) (v : Value) : CalmAt P (Instr.sureAddr v) := by
 unfold Instr.sureAddr; split
 ·exact zae P _
 ·exact zai P _
theorem ziV (P : Program) (v : Value) : CalmAt P (asAddr v) := by
 unfold asAddr; split
 ·exact zae P _
 ·exact .never (zaF P _)
 ·exact zai P _
def fieldSized (P : Program) (s f : Nat) : Bool :=
 match P.underlying s with
 | some (.struct fields) => (match fields[f]? with | some fd => (match P.info? fd.type with | some i => i.size != 0 | none => false) | none => false)
 | _ => false
theorem zgR {P : Program} {t : TypeId} {d : TypeDesc} {w w' : World} (h : (underlying t).run P w = .ok d w') : P.underlying t = some d := by
 unfold underlying at h
 rw [Sem.run_bind] at h
 simp only [run_program, Result.andThen_ok] at h
 split at h
 ·rename_i d' hd; simp only [Sem.run_pure, Result.ok.injEq] at h; rw [hd, h.1]
 ·simp at h
theorem zll {P : Program} {t : TypeId} {n : Nat} {w w' : World} (h : (sizeOf t).run P w = .ok n w') : ∃ i, P.info? t = some i ∧ i.size = n := by
 unfold sizeOf at h
 obtain ⟨i, w1, h1, h2⟩ := zaL h
 simp only [Sem.run_pure, Result.ok.injEq] at h2
 unfold typeInfo at h1
 rw [Sem.run_bind] at h1
 simp only [run_program, Result.andThen_ok] at h1
 split at h1
 ·rename_i i' hi; simp only [Sem.run_pure, Result.ok.injEq] at h1; exact ⟨i', hi, by rw [h1.1]; exact h2.1⟩
 ·simp at h1
theorem calm_bind' {α β : Type} {P : Program} {e : Sem α} {f : α → Sem β} (he : CalmAt P e) (hf : ∀ a w w', e.run P w = .ok a w' → CalmAt P (f a)) : CalmAt P (e >>= f) := fun w n w' h => by
 obtain ⟨a, w1, h1, h2⟩ := zaL h
 obtain ⟨rfl, k1⟩ := he _ _ _ h1
 obtain ⟨rfl, k2⟩ := hf a _ _ h1 _ _ _ h2
 exact ⟨rfl, fun w2 => by rw [Sem.run_bind, k1 w2]; exact k2 w2⟩
theorem zic {P : Program} {s : TypeId} {f : Nat} (hz : fieldSized P s f = true) (v : Value) : CalmAt P (Instr.fieldAt s v f) := by
 unfold Instr.fieldAt
 refine calm_bind' (zap P s) fun d w w' hd => ?_
 have hu := zgR hd
 split
 ·rename_i fields
  split
  ·rename_i fd hf
   refine zad (zcz P v) fun a => ?_
   refine zad ?_ fun _ => zae P _
   unfold fieldPlace
   refine calm_bind' (zbd P _) fun n w w' hn => ?_
   obtain ⟨i, hi, hin⟩ := zll hn
   split
   ·rename_i h0
    simp [fieldSized, hu, hf, hi, hin, h0] at hz
   ·exact zae P _
  ·exact zai P _
 ·exact zai P _
theorem zan {α : Type} {P : Program} {c : Prop} [Decidable c] {x y : Sem α} (hx : CalmAt P x) (hy : CalmAt P y) : CalmAt P (if c then x else y) := by
 split
 ·exact hx
 ·exact hy
theorem ziP {α : Type} (P : Program) (k : IntKind) (x y : Int) (c : BoundsCode) : CalmAt P (boundsPanic k x y c : Sem α) := .never (zdZ P k x y c)
theorem zqI {α : Type} (P : Program) (e : RuntimeError) : CalmAt P (runtimePanic e : Sem α) := .never (zaF P e)
theorem CLM {p : Prop} (h : p := by first | with_reducible exact zae _ _ | with_reducible exact zai _ _ | with_reducible exact zau _ _ | with_reducible exact zfs _ _ | with_reducible exact ziP _ _ _ _ _ | with_reducible exact zqI _ _ | with_reducible exact zhr _ _ | with_reducible exact zeI _ _ | with_reducible exact zku _ _ | with_reducible exact zap _ _ | with_reducible exact zcz _ _ | with_reducible exact ziV _ _ | with_reducible exact zbd _ _) : p := h
theorem zih (P : Program) (t : TypeId) (x ix : Value) : CalmAt P (Instr.indexAt t x ix) := by
 unfold Instr.indexAt
 repeat' (first | exact CLM | with_reducible exact zaq P _ _ _ | with_reducible refine zad ?_ (fun _ => ?_) | with_reducible refine zan ?_ ?_ | split | dsimp only)
theorem zkN (P : Program) (t : TypeId) (x ix : Value) : CalmAt P (Instr.index t x ix) := by
 unfold Instr.index
 repeat' (first | exact CLM | with_reducible exact zaq P _ _ _ | with_reducible refine zad ?_ (fun _ => ?_) | with_reducible refine zan ?_ ?_ | split | dsimp only)
theorem zkn (P : Program) (t : TypeId) (x : Value) (f : Nat) : CalmAt P (Instr.field t x f) := by
 unfold Instr.field
 repeat' (first | exact CLM | with_reducible exact zaq P _ _ _ | with_reducible refine zad ?_ (fun _ => ?_) | with_reducible refine zan ?_ ?_ | split | dsimp only)
theorem zhZ (P : Program) (x : Value) (i : Nat) : CalmAt P (Instr.extract x i) := by
 unfold Instr.extract
 repeat' (first | exact CLM | with_reducible exact zaq P _ _ _ | with_reducible refine zad ?_ (fun _ => ?_) | with_reducible refine zan ?_ ?_ | split | dsimp only)
theorem zdU (P : Program) (t : TypeId) (x : Value) : CalmAt P (Instr.makeInterface t x) := by
 unfold Instr.makeInterface
 repeat' (first | exact CLM | with_reducible exact zaq P _ _ _ | with_reducible refine zad ?_ (fun _ => ?_) | with_reducible refine zan ?_ ?_ | split | dsimp only)
theorem zfr (P : Program) (x : Value) (y : Nat) (c : BoundsCode) : CalmAt P (Instr.sliceBound x y c) := by
 unfold Instr.sliceBound
 repeat' (first | exact CLM | with_reducible exact zaq P _ _ _ | with_reducible refine zad ?_ (fun _ => ?_) | with_reducible refine zan ?_ ?_ | split | dsimp only)
theorem zcH (P : Program) (b : Bool) (len cap : Nat) (lo hi mx : Option Value) : CalmAt P (Instr.sliceBounds b len cap lo hi mx) := by
 unfold Instr.sliceBounds
 repeat' (first | exact CLM | with_reducible exact zfr P _ _ _ | with_reducible exact zaq P _ _ _ | with_reducible refine zad ?_ (fun _ => ?_) | with_reducible refine zan ?_ ?_ | split | dsimp only)
theorem zks (P : Program) (t : TypeId) (x : Value) (lo hi mx : Option Value) : CalmAt P (Instr.slice t x lo hi mx) := by
 unfold Instr.slice
 repeat' (first | exact CLM | with_reducible exact zcH P _ _ _ _ _ _ | with_reducible exact zaq P _ _ _ | with_reducible refine zad ?_ (fun _ => ?_) | with_reducible refine zan ?_ ?_ | split | dsimp only)
theorem zht (P : Program) (t : TypeId) (x : Value) (lo hi mx : Option Value) : CalmAt P (Instr.sliceAt t x lo hi mx) := by
 unfold Instr.sliceAt
 repeat' (first | exact CLM | with_reducible exact zcH P _ _ _ _ _ _ | with_reducible exact zks P _ _ _ _ _ | with_reducible exact zaq P _ _ _ | with_reducible refine zad ?_ (fun _ => ?_) | with_reducible refine zan ?_ ?_ | split | dsimp only)
theorem zgp (P : Program) (op : BinOp) (a b : ByteArray) : CalmAt P (Op.stringOp op a b) := by
 unfold Op.stringOp
 repeat' (first | exact CLM | with_reducible exact zaq P _ _ _ | with_reducible refine zad ?_ (fun _ => ?_) | with_reducible refine zan ?_ ?_ | split | dsimp only)
theorem zaP (P : Program) (op : BinOp) (k : IntKind) (a b : Int) : CalmAt P (Op.intArith op k a b) := by
 unfold Op.intArith
 repeat' (first | exact CLM | with_reducible exact zaq P _ _ _ | with_reducible refine zad ?_ (fun _ => ?_) | with_reducible refine zan ?_ ?_ | split | dsimp only)
theorem zaR (P : Program) (op : BinOp) (k : IntKind) (a b : Int) : CalmAt P (Op.intBits op k a b) := by
 unfold Op.intBits
 repeat' (first | exact CLM | with_reducible exact zaq P _ _ _ | with_reducible refine zad ?_ (fun _ => ?_) | with_reducible refine zan ?_ ?_ | split | dsimp only)
theorem zgh (P : Program) (op : BinOp) (k k' : IntKind) (a b : Int) : CalmAt P (Op.shift op k a k' b) := by
 unfold Op.shift
 repeat' (first | exact CLM | with_reducible exact zaP P _ _ _ _ | with_reducible exact zaR P _ _ _ _ | with_reducible exact zaq P _ _ _ | with_reducible refine zad ?_ (fun _ => ?_) | with_reducible refine zan ?_ ?_ | split | dsimp only)
theorem zfm (P : Program) (op : BinOp) (k : IntKind) (a b : Int) : CalmAt P (Op.intDiv op k a b) := by
 unfold Op.intDiv
 repeat' (first | exact CLM | with_reducible exact zaP P _ _ _ _ | with_reducible exact zaR P _ _ _ _ | with_reducible exact zaq P _ _ _ | with_reducible refine zad ?_ (fun _ => ?_) | with_reducible refine zan ?_ ?_ | split | dsimp only)
theorem ziI (P : Program) (op : BinOp) (a b : Int) : CalmAt P (Op.intCmp op a b) := by
 unfold Op.intCmp
 repeat' (first | exact CLM | with_reducible exact zaP P _ _ _ _ | with_reducible exact zaR P _ _ _ _ | with_reducible exact zaq P _ _ _ | with_reducible refine zad ?_ (fun _ => ?_) | with_reducible refine zan ?_ ?_ | split | dsimp only)
theorem zir (P : Program) (op : BinOp) (t : TypeId) (k k' : IntKind) (a b : Int) : CalmAt P (binOp op t (.int k a) (.int k' b)) := by
 cases op
 case shl => exact (zgh P .shl k k' a b : CalmAt P (Op.shift .shl k a k' b))
 case shr => exact (zgh P .shr k k' a b : CalmAt P (Op.shift .shr k a k' b))
 case add => exact zan (zai P _) (zaP P _ _ _ _)
 case sub => exact zan (zai P _) (zaP P _ _ _ _)
 case mul => exact zan (zai P _) (zaP P _ _ _ _)
 case quo => exact zan (zai P _) (zfm P _ _ _ _)
 case rem => exact zan (zai P _) (zfm P _ _ _ _)
 case and => exact zan (zai P _) (zaR P _ _ _ _)
 case or => exact zan (zai P _) (zaR P _ _ _ _)
 case xor => exact zan (zai P _) (zaR P _ _ _ _)
 case andNot => exact zan (zai P _) (zaR P _ _ _ _)
 all_goals exact zan (zai P _) (ziI P _ _ _)
theorem zfF (P : Program) (op : BinOp) (t : TypeId) (a b : ByteArray) : CalmAt P (binOp op t (.string a) (.string b)) := by
 have h : binOp op t (.string a) (.string b) = Op.stringOp op a b := by cases op <;> rfl
 rw [h]; exact zgp P op a b
theorem zdc (P : Program) (t : TypeId) (a b : Bool) : CalmAt P (Op.equal t (.bool a) (.bool b)) := by
 unfold Op.equal Op.maxDepth
 have h : Op.equalIn 10000 t (.bool a) (.bool b) = (do
   match ← underlying t with
   | .bool => pure (a == b)
   | _ => stuck "==: the operands do not fit the type, or the type is not comparable") := by
  show (underlying t >>= fun d => _) = (underlying t >>= fun d => _)
  congr 1
  funext d
  cases d <;> rfl
 rw [h]
 repeat' (first | exact CLM | with_reducible exact zaP P _ _ _ _ | with_reducible exact zaR P _ _ _ _ | with_reducible exact zaq P _ _ _ | with_reducible refine zad ?_ (fun _ => ?_) | with_reducible refine zan ?_ ?_ | split | dsimp only)
theorem zhT (P : Program) (op : BinOp) (t : TypeId) (a b : Bool) : CalmAt P (binOp op t (.bool a) (.bool b)) := by
 cases op
 case eql => exact zad (zdc P t a b) fun _ => zae P _
 case neq => exact zad (zdc P t a b) fun _ => zae P _
 all_goals exact zai P _
theorem zkF (P : Program) (op : UnOp) (x : Value) : CalmAt P (Op.unary op x) := by
 unfold Op.unary
 repeat' (first | exact CLM | with_reducible exact zaP P _ _ _ _ | with_reducible exact zaR P _ _ _ _ | with_reducible exact zaq P _ _ _ | with_reducible refine zad ?_ (fun _ => ?_) | with_reducible refine zan ?_ ?_ | split | dsimp only)
theorem zfM (P : Program) (s d : TypeId) (k : IntKind) (n : Int) : CalmAt P (Conv.unsafePointer s d (.int k n)) := by
 unfold Conv.unsafePointer
 refine zad (zap P s) fun ds => ?_
 refine zad (zap P d) fun dd => ?_
 cases ds <;> cases dd <;> first | exact zai P _ | (dsimp only; split <;> first | contradiction | exact zau P _ | exact zai P _)
theorem zfa (P : Program) (s d : TypeId) (k : IntKind) (n : Int) : CalmAt P (convert s d (.int k n)) := by
 unfold convert
 refine zad (zap P s) fun ds => ?_
 refine zad (zap P d) fun dd => ?_
 cases ds <;> cases dd <;> first | exact zae P _ | exact zau P _ | exact zai P _ | exact zfM P s d k n
theorem zoA (P : Program) (ats : Array TypeId) (t : TypeId) (x : Value) (hx : (match x with | .string _ | .slice .. => true | _ => false) = true) :
  CalmAt P (Builtin.len_ ats t #[x]) := by
 unfold Builtin.len_
 cases hu : ats[0]? with
 | none => exact zai P _
 | some u =>
  refine zad (zap P u) fun d => ?_
  cases x <;> simp only [Bool.false_eq_true] at hx <;> cases d <;> first | exact zae P _ | exact zai P _ | (refine zad (zap P _) fun d' => ?_; cases d' <;> first | exact zae P _ | exact zai P _)
theorem zfG (P : Program) (t : TypeId) : CalmAt P (zeroValue t) := by
 unfold zeroValue; refine zad (zdB P t) fun i => ?_; split
 ·exact zae P _
 ·exact zau P _
theorem zdW {α β : Type} {P : Program} (f : α → Sem β) (hf : ∀ a, CalmAt P (f a)) : ∀ (l : List α), CalmAt P (l.mapM f)
 | [] => by rw [List.mapM_nil]; exact zae P _
 | a :: l => by rw [List.mapM_cons]; exact zad (hf a) fun _ => zad (zdW f hf l) fun _ => zae P _
theorem zlj {α β : Type} {P : Program} (f : α → Sem β) (hf : ∀ a, CalmAt P (f a)) (as : Array α) : CalmAt P (as.mapM f) := by
 rw [Array.mapM_eq_mapM_toList]; exact znK (zdW f hf _)
theorem zkz (P : Program) (t : TypeId) (parts : Array (Nat × Value)) : CalmAt P (Instr.build t parts) := by
 unfold Instr.build
 refine zad (zfG P t) fun z => ?_
 refine zad (zap P t) fun d => ?_
 split
 ·refine zad (zlj _ (fun f => zad (zbd P _) fun _ => zae P _) _) fun _ => ?_
  split
  ·exact zae P _
  ·exact zai P _
 ·refine zad (zbd P _) fun _ => ?_
  split
  ·exact zae P _
  ·exact zai P _
 ·exact zai P _
inductive OpKind where
 | pure | read | other
 deriving DecidableEq
theorem zcl {α β : Type} {P : Program} (f : α → β → Sem (ForInStep β)) (h : ∀ a b, CalmAt P (f a b)) : ∀ (l : List α) (b : β), CalmAt P (forIn l b f)
 | [], b => by rw [List.forIn_nil]; exact zae P _
 | a :: l, b => by
  rw [List.forIn_cons]
  refine zad (h a b) fun s => ?_
  cases s with
  | done b => exact zae P _
  | yield b => exact zcl f h l b
def intsB (a : Array Value) : Bool := a.toList.all fun v => match v with | .int .. => true | _ => false
def Ints_ (v : Value) : Prop := (∃ k n, v = .int k n) ∨ ∃ cs, v = .agg cs ∧ intsB cs = true
theorem zbC {P : Program} {t : TypeId} {cs : Array Value} {off : Nat} {w w' : World} {v : Value} (hc : intsB cs = true) (h : (part t cs off).run P w = .ok v w') : Ints_ v := by
 unfold part at h
 obtain ⟨b, w1, h1, h2⟩ := zaL h
 split at h2
 ·obtain ⟨n, w2, h3, h4⟩ := zaL h2
  simp only [Sem.run_pure, Result.ok.injEq] at h4
  obtain ⟨rfl, rfl⟩ := h4
  refine .inr ⟨_, rfl, ?_⟩
  unfold intsB at hc ⊢
  rw [List.all_eq_true] at hc ⊢
  intro x hx
  refine hc x ?_
  rw [Array.toList_extract] at hx
  exact List.mem_of_mem_drop (List.mem_of_mem_take (by simpa [List.extract] using hx))
 ·split at h2
  ·rename_i u hu
   simp only [Sem.run_pure, Result.ok.injEq] at h2
   obtain ⟨rfl, rfl⟩ := h2
   unfold intsB at hc
   rw [List.all_eq_true] at hc
   have := hc u (by
    obtain ⟨hi, e⟩ := Array.getElem?_eq_some_iff.1 hu
    rw [← e]; exact Array.getElem_mem_toList hi)
   cases u <;> first | exact .inl ⟨_, _, rfl⟩ | cases this
  ·simp at h2
theorem zbX {P : Program} : ∀ (d : Nat) (t : TypeId) (x y : Value), Ints_ x → Ints_ y → CalmAt P (Op.equalIn d t x y)
 | 0, t, x, y, _, _ => by unfold Op.equalIn; exact zau P _
 | d + 1, t, x, y, hx, hy => by
  unfold Op.equalIn
  refine zad (zap P t) fun u => ?_
  rcases hx with ⟨k, n, rfl⟩ | ⟨xs, rfl, hxs⟩ <;> rcases hy with ⟨k', n', rfl⟩ | ⟨ys, rfl, hys⟩ <;> cases u <;> try exact zai P _
  ·exact zan (zae P _) (zai P _)
  ·dsimp only
   refine zad (zbd P _) fun n => ?_
   refine zad ?_ fun s => ?_
   ·rw [Std.Legacy.Range.forIn_eq_forIn_range']
    refine zcl _ (fun i s => ?_) _ _
    refine calm_bind' (zaq P _ _ _) fun a w w' ha => ?_
    refine calm_bind' (zaq P _ _ _) fun b w w' hb => ?_
    refine zad (zbX d _ a b (zbC hxs ha) (zbC hys hb)) fun c => ?_
    exact zan (zae P _) (zae P _)
   ·split
    ·exact zae P _
    ·exact zae P _
  ·dsimp only
   refine zad (zbA P) fun p => zan (zad (zau P _) fun _ => ?_) ?_
   all_goals
    refine zad ?_ fun s => ?_
    ·rw [← Array.forIn_toList]
     refine zcl _ (fun f s => ?_) _ _
     refine zan ?_ (zae P _)
     refine calm_bind' (zaq P _ _ _) fun a w w' ha => ?_
     refine calm_bind' (zaq P _ _ _) fun b w w' hb => ?_
     refine zad (zbX d _ a b (zbC hxs ha) (zbC hys hb)) fun c => ?_
     exact zan (zae P _) (zae P _)
    ·split
     ·exact zae P _
     ·exact zae P _
theorem zcf {P : Program} : ∀ (d : Nat) (t : TypeId) (x y : Value), Ints_ x → Ints_ y → CalmAt P (Op.eqGuardIn d t x y)
 | 0, t, x, y, _, _ => by unfold Op.eqGuardIn; exact zau P _
 | d + 1, t, x, y, hx, hy => by
  unfold Op.eqGuardIn
  refine zad (zap P t) fun u => ?_
  rcases hx with ⟨k, n, rfl⟩ | ⟨xs, rfl, hxs⟩ <;> rcases hy with ⟨k', n', rfl⟩ | ⟨ys, rfl, hys⟩ <;> cases u <;> try exact zae P _
  ·dsimp only
   refine zad (zbd P _) fun n => ?_
   refine zad ?_ fun s => ?_
   ·rw [Std.Legacy.Range.forIn_eq_forIn_range']
    refine zcl _ (fun i s => ?_) _ _
    refine calm_bind' (zaq P _ _ _) fun a w w' ha => ?_
    refine calm_bind' (zaq P _ _ _) fun b w w' hb => ?_
    refine zad (zcf d _ a b (zbC hxs ha) (zbC hys hb)) fun c => ?_
    exact zan (zae P _) (zae P _)
   ·split
    ·exact zae P _
    ·exact zae P _
  ·dsimp only
   all_goals
    refine zad ?_ fun s => ?_
    ·rw [← Array.forIn_toList]
     refine zcl _ (fun f s => ?_) _ _
     refine zan ?_ (zae P _)
     refine calm_bind' (zaq P _ _ _) fun a w w' ha => ?_
     refine calm_bind' (zaq P _ _ _) fun b w w' hb => ?_
     refine zad (zcf d _ a b (zbC hxs ha) (zbC hys hb)) fun c => ?_
     exact zan (zae P _) (zae P _)
    ·split
     ·exact zae P _
     ·exact zae P _
theorem ziq (P : Program) (op : BinOp) (t : TypeId) (a b : Array Value) (ha : intsB a = true) (hb : intsB b = true) : CalmAt P (binOp op t (.agg a) (.agg b)) := by
 cases op
 case eql => exact zad (zbX _ t _ _ (.inr ⟨_, rfl, ha⟩) (.inr ⟨_, rfl, hb⟩)) fun _ => zae P _
 case neq => exact zad (zbX _ t _ _ (.inr ⟨_, rfl, ha⟩) (.inr ⟨_, rfl, hb⟩)) fun _ => zae P _
 all_goals exact zai P _
theorem zfx (P : Program) (op : BinOp) (t : TypeId) (x y : Operand) (a b : Array Value) (ha : intsB a = true) (hb : intsB b = true) : CalmAt P (eqGuard op t x y (.agg a) (.agg b)) := by
 have h : CalmAt P (do
   if !((← program).eqGuardType (← program).depth t) then return
   if ← Op.eqGuardIn Op.maxDepth t (.agg a) (.agg b) then unsupported (.noEntry "binop/eql: two nil values of an interface type with methods, in a part of a struct or an array")) := by
  refine zad (zbA P) fun p => zad (zbA P) fun q => ?_
  refine zan (zae P _) (zad (zcf _ t _ _ (.inr ⟨_, rfl, ha⟩) (.inr ⟨_, rfl, hb⟩)) fun c => zan (zau P _) (zae P _))
 cases op
 case eql => exact h
 case neq => exact h
 all_goals exact zae P _
def kindOf (P : Program) (o : Oper) : OpKind :=
 match o.op with
 | .binOp .eql t _ _ _ => (match P.underlying t with | some (.struct _) => .other | _ => .pure)
 | .binOp .neq t _ _ _ => (match P.underlying t with | some (.struct _) => .other | _ => .pure)
 | .move _ | .assign _ | .pick .. | .build .. | .nilCheck _ | .binOp .. | .unOp .. | .slice .. | .field .. | .indexAddr .. | .index .. | .extract .. | .makeInterface .. | .makeFunc .. => .pure
 | .fieldAddr s _ f => if fieldSized P s f then .pure else .other
 | .call { callee := .builtin .len, args, .. } => if args.size = 1 then .pure else .other
 | .call { callee := .builtin .min, args, .. } => if args.size = 2 then .pure else .other
 | .call { callee := .builtin .max, args, .. } => if args.size = 2 then .pure else .other
 | .load .. => .read
 | .convert s _ _ => (match P.underlying s with | some (.int _) => .pure | _ => .other)
 | _ => .other
def calmOk (ρ : Operand → Value) (o : Oper) : Bool :=
 match o.op with
 | .nilCheck x => (match ρ x with | .func .. => false | _ => true)
 | .binOp _ _ x y _ => (match ρ x, ρ y with | .int .., .int .. => true | .string _, .string _ => true | .bool _, .bool _ => true | .agg a, .agg b => intsB a && intsB b | _, _ => false)
 | .convert _ _ x => (match ρ x with | .int .. => true | _ => false)
 | .call { callee := .builtin .len, args, .. } => (match ρ (args.getD 0 (.const undef)) with | .string _ | .slice .. => true | _ => false)
 | .call { callee := .builtin .min, args, .. } => (match ρ (args.getD 0 (.const undef)), ρ (args.getD 1 (.const undef)) with | .int .., .int .. => true | _, _ => false)
 | .call { callee := .builtin .max, args, .. } => (match ρ (args.getD 0 (.const undef)), ρ (args.getD 1 (.const undef)) with | .int .., .int .. => true | _, _ => false)
 | _ => true
def CalmV (P : Program) (e : Sem Next) : Prop := ∀ w n w', e.run P w = .ok n w' → ∃ v, n = .value v ∧ w' = w ∧ ∀ w2, e.run P w2 = .ok (.value v) w2
theorem zaN {P : Program} {s : Sem Value} (h : CalmAt P s) : CalmV P (do Pure.pure (Next.value (← s))) := fun w n w' hr => by
 obtain ⟨v, w1, h1, h2⟩ := zaL hr
 obtain ⟨rfl, k⟩ := h _ _ _ h1
 simp only [Sem.run_pure, Result.ok.injEq] at h2
 obtain ⟨rfl, rfl⟩ := h2
 exact ⟨v, rfl, rfl, fun w2 => by rw [Sem.run_bind, k w2]; rfl⟩
theorem zcY (P : Program) (v : Value) : CalmV P (Pure.pure (Next.value v)) := fun w n w' h => by
 simp only [Sem.run_pure, Result.ok.injEq] at h
 obtain ⟨rfl, rfl⟩ := h
 exact ⟨v, rfl, rfl, fun _ => rfl⟩
theorem zeR {P : Program} {e : Sem Next} (h : Never P e) : CalmV P e := fun w n w' hr => absurd hr (h w n w')
theorem zcP (P : Program) (op : BinOp) (t : TypeId) (x y : Operand) (a b : Value) (h : (match a, b with | .int .., .int .. => true | .string _, .string _ => true | .bool _, .bool _ => true | _, _ => false) = true) :
  CalmAt P (eqGuard op t x y a b) := by
 cases a <;> cases b <;> simp only [Bool.false_eq_true] at h <;> cases op <;> exact zae P _
theorem zeU {P : Program} {ρ : Operand → Value} {o : Oper} (hk : kindOf P o = .pure) (hc : calmOk ρ o = true) : CalmV P (execOp ρ o) := by
 obtain ⟨dst, op, type, pos, after, guard⟩ := o
 cases op <;> simp only [kindOf, reduceCtorEq] at hk <;> simp only [calmOk] at hc <;> simp only [execOp]
 case move x => exact zcY P _
 case assign x => exact zcY P _
 case pick c a b =>
  intro w n w' hr
  obtain ⟨v, w1, h1, h2⟩ := zaL hr
  obtain ⟨rfl, k⟩ := zeI P _ _ _ _ h1
  simp only [Sem.run_pure, Result.ok.injEq] at h2
  obtain ⟨rfl, rfl⟩ := h2
  exact ⟨_, rfl, rfl, fun w2 => by rw [Sem.run_bind, k w2]; rfl⟩
 case nilCheck x =>
  cases hx : ρ x <;> simp only [hx] at hc ⊢ <;> first
   | exact zcY P _
   | exact zeR (zaF P _)
   | (rename_i q; cases q <;> first | exact zcY P _ | exact zeR (zaF P _))
   | cases hc
 case binOp op xt x y yt =>
  cases hx : ρ x <;> cases hy : ρ y <;> simp only [hx, hy, Bool.false_eq_true, Bool.and_eq_true] at hc
  ·exact zaN (zad (zcP P _ _ _ _ _ _ rfl) fun _ => zhT P _ _ _ _)
  ·exact zaN (zad (zcP P _ _ _ _ _ _ rfl) fun _ => zir P _ _ _ _ _ _)
  ·exact zaN (zad (zcP P _ _ _ _ _ _ rfl) fun _ => zfF P _ _ _ _)
  ·exact zaN (zad (zfx P _ _ _ _ _ _ hc.1 hc.2) fun _ => ziq P _ _ _ _ hc.1 hc.2)
 case unOp op t x => exact zaN (zkF P _ _)
 case build t ps => exact zaN (zkz P _ _)
 case convert s d x =>
  cases hx : ρ x <;> simp only [hx, Bool.false_eq_true] at hc
  exact zaN (zfa P _ _ _ _)
 case slice t x lo hi mx => exact zaN (zht P _ _ _ _ _)
 case fieldAddr s x f =>
  split at hk
  ·rename_i h; exact zaN (zic h _)
  ·cases hk
 case field t x f => exact zaN (zkn P _ _ _)
 case indexAddr t x i => exact zaN (zih P _ _ _)
 case index t x i => exact zaN (zkN P _ _ _)
 case makeInterface t x => exact zaN (zdU P _ _)
 case makeFunc fn a b => exact zaN (zae P _)
 case extract t i => exact zaN (zhZ P _ _)
 case call c =>
  obtain ⟨callee, args, ats⟩ := c
  cases callee with
  | value f => cases hk
  | invoke r m => cases hk
  | builtin b =>
   cases b <;> simp only [reduceCtorEq] at hk
   case len =>
    split at hk
    ·rename_i hs
     obtain ⟨x, rfl⟩ : ∃ x, args = #[x] := Array.size_eq_one_iff.1 hs
     show CalmV P (do Pure.pure (Next.value (← Builtin.len_ ats type ((#[x] : Array Operand).map ρ))))
     rw [show (#[x] : Array Operand).map ρ = #[ρ x] from by simp]
     exact zaN (zoA P _ _ _ hc)
    ·cases hk
   case max =>
    split at hk
    ·rename_i hs
     obtain ⟨x, y, rfl⟩ : ∃ x y, args = #[x, y] := by
      obtain ⟨l⟩ := args
      match l, hs with
      | [x, y], _ => exact ⟨x, y, rfl⟩
     simp only [Array.getD_eq_getD_getElem?, List.getElem?_toArray, List.getElem?_cons_zero, List.getElem?_cons_succ, Option.getD_some] at hc
     cases hx : ρ x <;> cases hy : ρ y <;> simp only [hx, hy, Bool.false_eq_true] at hc
     rename_i k1 n1 k2 n2
     show CalmV P (do Pure.pure (Next.value (← Builtin.max_ ats type ((#[x, y] : Array Operand).map ρ))))
     rw [show (#[x, y] : Array Operand).map ρ = #[ρ x, ρ y] from by simp, hx, hy]
     exact zaN (zae P _)
    ·cases hk
   case min =>
    split at hk
    ·rename_i hs
     obtain ⟨x, y, rfl⟩ : ∃ x y, args = #[x, y] := by
      obtain ⟨l⟩ := args
      match l, hs with
      | [x, y], _ => exact ⟨x, y, rfl⟩
     simp only [Array.getD_eq_getD_getElem?, List.getElem?_toArray, List.getElem?_cons_zero, List.getElem?_cons_succ, Option.getD_some] at hc
     cases hx : ρ x <;> cases hy : ρ y <;> simp only [hx, hy, Bool.false_eq_true] at hc
     rename_i k1 n1 k2 n2
     show CalmV P (do Pure.pure (Next.value (← Builtin.min_ ats type ((#[x, y] : Array Operand).map ρ))))
     rw [show (#[x, y] : Array Operand).map ρ = #[ρ x, ρ y] from by simp, hx, hy]
     exact zaN (zae P _)
    ·cases hk
def Looks {α : Type} (P : Program) (e : Sem α) : Prop := ∀ w n w', e.run P w = .ok n w' → w' = w
theorem zgk (P : Program) (a : Addr) : Looks P (load a) := fun w n w' h => by
 rw [run_load] at h
 split at h
 ·simp only [Result.ok.injEq] at h; exact h.2.symm
 ·split at h
  ·simp only [Result.ok.injEq] at h; exact h.2.symm
  ·simp at h
theorem zdM {α : Type} {P : Program} {e : Sem α} (h : CalmAt P e) : Looks P e := fun w n w' hr => (h w n w' hr).1
theorem zcj {α β : Type} {P : Program} {e : Sem α} {f : α → Sem β} (he : Looks P e) (hf : ∀ a, Looks P (f a)) : Looks P (e >>= f) := fun w n w' h => by
 obtain ⟨a, w1, h1, h2⟩ := zaL h
 obtain rfl := he _ _ _ h1
 exact hf _ _ _ _ h2
theorem zfi (P : Program) (a : Addr) : ∀ (n i : Nat) (acc : Array Value), Looks P (loadCellsFrom a i n acc)
 | 0, i, acc => zdM (zae P _)
 | n + 1, i, acc => zcj (zgk P _) fun v => zfi P a n (i + 1) _
theorem zgv (P : Program) (t : TypeId) (a : Addr) : Looks P (loadVar t a) := by
 unfold loadVar
 refine zcj (zdM (zfY P t)) fun b => ?_
 split
 ·exact zcj (zdM (zbd P t)) fun n => zcj (zfi P a _ _ _) fun _ => zdM (zae P _)
 ·exact zgk P a
theorem zgi {P : Program} {ρ : Operand → Value} {o : Oper} (hk : kindOf P o = .read) : ∀ w n w', (execOp ρ o).run P w = .ok n w' → w' = w ∧ ∃ v, n = .value v := by
 obtain ⟨dst, op, type, pos, after, guard⟩ := o
 intro w n w' h
 cases op <;> simp only [kindOf, reduceCtorEq] at hk
 case load t a =>
  simp only [execOp] at h
  obtain ⟨v, w1, h1, h2⟩ := zaL h
  have : Looks P (Instr.loadAt t (ρ a)) := zcj (zdM (zcz P _)) fun _ => zgv P t _
  obtain rfl := this _ _ _ h1
  simp only [Sem.run_pure, Result.ok.injEq] at h2
  exact ⟨h2.2.symm, v, h2.1.symm⟩
 case fieldAddr s x f => split at hk <;> cases hk
 case binOp b t x y yt => cases b <;> simp only [reduceCtorEq] at hk <;> (split at hk <;> cases hk)
 case convert s d x => split at hk <;> cases hk
 case call c =>
  obtain ⟨callee, args, ats⟩ := c
  cases callee with
  | value f => cases hk
  | invoke r m => cases hk
  | builtin b => cases b <;> simp only [reduceCtorEq] at hk <;> (split at hk <;> cases hk)
end Go.Pw
