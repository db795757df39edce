/- Helper lemmas that the proved statement rests on; no conditions of their own. -/
import Derived.WalkKit
import Derived.Deep.QuietTactic
set_option linter.unusedVariables false
namespace Go.Pw
open Go
def CalmAt {α : Type} (P : Program) (e : Sem α) : Prop :=
 ∀ w n w', e.run P w = .ok n w' → w' = w ∧ ∀ w2, e.run P w2 = .ok n w2
def Never {α : Type} (P : Program) (e : Sem α) : Prop := ∀ w n w', e.run P w ≠ .ok n w'
theorem CalmAt.never {α : Type} {P : Program} {e : Sem α} (h : Never P e) : CalmAt P e := fun w n w' hr => absurd hr (h w n w')
theorem zaf {α : Type} (P : Program) (a : α) : CalmAt P (Pure.pure a : Sem α) := fun w n w' h => by
 simp only [Sem.run_pure, Result.ok.injEq] at h
 obtain ⟨rfl, rfl⟩ := h
 exact ⟨rfl, fun _ => rfl⟩
theorem zfT {α : Type} (P : Program) (h : Halt) : CalmAt P (Sem.halt h : Sem α) := fun w n w' hr => by simp at hr
theorem zam {α : Type} (P : Program) (s : String) : CalmAt P (stuck s : Sem α) := zfT P _
theorem zaw {α : Type} (P : Program) (s : Unsupported) : CalmAt P (unsupported s : Sem α) := zfT P _
theorem zbF (P : Program) : CalmAt P program := fun w n w' h => by
 simp only [run_program, Result.ok.injEq] at h
 obtain ⟨rfl, rfl⟩ := h
 exact ⟨rfl, fun _ => rfl⟩
theorem zaL {α β : Type} {P : Program} {e : Sem α} {f : α → Sem β} {w w' : World} {b : β} (h : (e >>= f).run P w = .ok b w') :
  ∃ a w1, e.run P w = .ok a w1 ∧ (f a).run P w1 = .ok b w' := by
 rw [Sem.run_bind] at h
 cases he : e.run P w with
 | ok a w1 => rw [he] at h; exact ⟨a, w1, rfl, h⟩
 | halt x w1 => rw [he] at h; simp at h
theorem zad {α β : Type} {P : Program} {e : Sem α} {f : α → Sem β} (he : CalmAt P e) (hf : ∀ a, CalmAt P (f a)) : CalmAt P (e >>= f) := fun w n w' h => by
 obtain ⟨a, w1, h1, h2⟩ := zaL h
 obtain ⟨rfl, k1⟩ := he _ _ _ h1
 obtain ⟨rfl, k2⟩ := hf a _ _ _ h2
 exact ⟨rfl, fun w2 => by rw [Sem.run_bind, k1 w2]; exact k2 w2⟩
theorem zbH {α β : Type} {P : Program} {e : Sem α} {f : α → Sem β} (hf : ∀ a, Never P (f a)) : Never P (e >>= f) := fun w n w' h => by
 obtain ⟨a, w1, _, h2⟩ := zaL h; exact hf _ _ _ _ h2
theorem zgD {α : Type} (P : Program) (h : Halt) : Never P (Sem.halt h : Sem α) := fun w n w' hr => by simp at hr
theorem zaI {α : Type} (P : Program) (e : RuntimeError) : Never P (runtimePanic e : Sem α) := by
 unfold runtimePanic
 refine zbH fun p => ?_
 cases e <;> first
  | exact zgD P _
  | exact zbH fun _ => zbH fun _ => zgD P _
theorem zem {α : Type} (P : Program) (k : IntKind) (x y : Int) (c : BoundsCode) : Never P (boundsPanic k x y c : Sem α) := by
 unfold boundsPanic
 dsimp only
 split
 ·exact zbH fun _ => zaI P _
 ·exact zbH fun _ => zaI P _
theorem zpp {α β : Type} {P : Program} {e : Sem α} {f : α → β} (he : CalmAt P e) : CalmAt P (f <$> e) := fun w n w' h => by
 simp only [Sem.run_map] at h
 cases h1 : e.run P w with
 | ok a w1 =>
  rw [h1] at h
  simp only [Result.andThen_ok, Result.ok.injEq] at h
  obtain ⟨rfl, rfl⟩ := h
  obtain ⟨rfl, k⟩ := he _ _ _ h1
  exact ⟨rfl, fun w2 => by simp [k w2]⟩
 | halt x w1 => rw [h1] at h; simp at h
theorem zdK (P : Program) (t : TypeId) : CalmAt P (typeInfo t) := by
 unfold typeInfo; refine zad (zbF P) fun p => ?_; split
 ·exact zaf P _
 ·exact zam P _
theorem zat (P : Program) (t : TypeId) : CalmAt P (underlying t) := by
 unfold underlying; refine zad (zbF P) fun p => ?_; split
 ·exact zaf P _
 ·exact zam P _
theorem zbf (P : Program) (t : TypeId) : CalmAt P (sizeOf t) := by
 unfold sizeOf; exact zad (zdK P t) fun _ => zaf P _
theorem zgE (P : Program) (t : TypeId) : CalmAt P (isAgg t) := by
 unfold isAgg; refine zad (zat P t) fun d => ?_; split <;> exact zaf P _
theorem zau (P : Program) (t : TypeId) (cs : Array Value) (off : Nat) : CalmAt P (part t cs off) := by
 unfold part
 refine zad (zgE P t) fun b => ?_
 split
 ·exact zad (zbf P t) fun _ => zaf P _
 ·split
  ·exact zaf P _
  ·exact zam P _
theorem zim (P : Program) (v : Value) : CalmAt P (asIntOf v) := by
 unfold asIntOf; split
 ·exact zaf P _
 ·exact zaw P _
 ·exact zam P _
theorem zff (P : Program) (v : Value) : CalmAt P (asBool v) := by
 unfold asBool; split
 ·exact zaf P _
 ·exact zam P _
theorem zlG (P : Program) (v : Value) : CalmAt P (asAgg v) := by
 unfold asAgg; split
 ·exact zaf P _
 ·exact zam P _
theorem zcH (P : Program) (v : Value) : CalmAt P (Instr.sureAddr v) := by
 unfold Instr.sureAddr; split
 ·exact zaf P _
 ·exact zam P _
theorem zjR (P : Program) (v : Value) : CalmAt P (asAddr v) := by
 unfold asAddr; split
 ·exact zaf P _
 ·exact .never (zaI P _)
 ·exact zam P _
def fieldSized (P : Program) (s f : Nat) : Bool :=
 match P.underlying s with
 | some (.struct fields) => (match fields[f]? with | some fd => (match P.info? fd.type with | some i => i.size != 0 | none => false) | none => false)
 | _ => false
theorem zhG {P : Program} {t : TypeId} {d : TypeDesc} {w w' : World} (h : (underlying t).run P w = .ok d w') : P.underlying t = some d := by
 unfold underlying at h
 rw [Sem.run_bind] at h
 simp only [run_program, Result.andThen_ok] at h
 split at h
 ·rename_i d' hd; simp only [Sem.run_pure, Result.ok.injEq] at h; rw [hd, h.1]
 ·simp at h
theorem zmw {P : Program} {t : TypeId} {n : Nat} {w w' : World} (h : (sizeOf t).run P w = .ok n w') : ∃ i, P.info? t = some i ∧ i.size = n := by
 unfold sizeOf at h
 obtain ⟨i, w1, h1, h2⟩ := zaL h
 simp only [Sem.run_pure, Result.ok.injEq] at h2
 unfold typeInfo at h1
 rw [Sem.run_bind] at h1
 simp only [run_program, Result.andThen_ok] at h1
 split at h1
 ·rename_i i' hi; simp only [Sem.run_pure, Result.ok.injEq] at h1; exact ⟨i', hi, by rw [h1.1]; exact h2.1⟩
 ·simp at h1
theorem calm_bind' {α β : Type} {P : Program} {e : Sem α} {f : α → Sem β} (he : CalmAt P e) (hf : ∀ a w w', e.run P w = .ok a w' → CalmAt P (f a)) : CalmAt P (e >>= f) := fun w n w' h => by
 obtain ⟨a, w1, h1, h2⟩ := zaL h
 obtain ⟨rfl, k1⟩ := he _ _ _ h1
 obtain ⟨rfl, k2⟩ := hf a _ _ h1 _ _ _ h2
 exact ⟨rfl, fun w2 => by rw [Sem.run_bind, k1 w2]; exact k2 w2⟩
theorem zjb {P : Program} {s : TypeId} {f : Nat} (hz : fieldSized P s f = true) (v : Value) : CalmAt P (Instr.fieldAt s v f) := by
 unfold Instr.fieldAt
 refine calm_bind' (zat P s) fun d w w' hd => ?_
 have hu := zhG hd
 split
 ·rename_i fields
  split
  ·rename_i fd hf
   refine zad (zcH P v) fun a => ?_
   refine zad ?_ fun _ => zaf P _
   unfold fieldPlace
   refine calm_bind' (zbf P _) fun n w w' hn => ?_
   obtain ⟨i, hi, hin⟩ := zmw hn
   split
   ·rename_i h0
    simp [fieldSized, hu, hf, hi, hin, h0] at hz
   ·exact zaf P _
  ·exact zam P _
 ·exact zam P _
theorem zap {α : Type} {P : Program} {c : Prop} [Decidable c] {x y : Sem α} (hx : CalmAt P x) (hy : CalmAt P y) : CalmAt P (if c then x else y) := by
 split
 ·exact hx
 ·exact hy
theorem zjM {α : Type} (P : Program) (k : IntKind) (x y : Int) (c : BoundsCode) : CalmAt P (boundsPanic k x y c : Sem α) := .never (zem P k x y c)
theorem zsB {α : Type} (P : Program) (e : RuntimeError) : CalmAt P (runtimePanic e : Sem α) := .never (zaI P e)
theorem CLM {p : Prop} (h : p := by first | with_reducible exact zaf _ _ | with_reducible exact zam _ _ | with_reducible exact zaw _ _ | with_reducible exact zfT _ _ | with_reducible exact zjM _ _ _ _ _ | with_reducible exact zsB _ _ | with_reducible exact zim _ _ | with_reducible exact zff _ _ | with_reducible exact zlG _ _ | with_reducible exact zat _ _ | with_reducible exact zcH _ _ | with_reducible exact zjR _ _ | with_reducible exact zbf _ _) : p := h
theorem zjf (P : Program) (t : TypeId) (x ix : Value) : CalmAt P (Instr.indexAt t x ix) := by
 unfold Instr.indexAt
 repeat' (first | exact CLM | with_reducible exact zau P _ _ _ | with_reducible refine zad ?_ (fun _ => ?_) | with_reducible refine zap ?_ ?_ | split | dsimp only)
theorem zlY (P : Program) (t : TypeId) (x ix : Value) : CalmAt P (Instr.index t x ix) := by
 unfold Instr.index
 repeat' (first | exact CLM | with_reducible exact zau P _ _ _ | with_reducible refine zad ?_ (fun _ => ?_) | with_reducible refine zap ?_ ?_ | split | dsimp only)
theorem zlB (P : Program) (t : TypeId) (x : Value) (f : Nat) : CalmAt P (Instr.field t x f) := by
 unfold Instr.field
 repeat' (first | exact CLM | with_reducible exact zau P _ _ _ | with_reducible refine zad ?_ (fun _ => ?_) | with_reducible refine zap ?_ ?_ | split | dsimp only)
theorem ziZ (P : Program) (x : Value) (i : Nat) : CalmAt P (Instr.extract x i) := by
 unfold Instr.extract
 repeat' (first | exact CLM | with_reducible exact zau P _ _ _ | with_reducible refine zad ?_ (fun _ => ?_) | with_reducible refine zap ?_ ?_ | split | dsimp only)
theorem zef (P : Program) (t : TypeId) (x : Value) : CalmAt P (Instr.makeInterface t x) := by
 unfold Instr.makeInterface
 repeat' (first | exact CLM | with_reducible exact zau P _ _ _ | with_reducible refine zad ?_ (fun _ => ?_) | with_reducible refine zap ?_ ?_ | split | dsimp only)
theorem zfS (P : Program) (x : Value) (y : Nat) (c : BoundsCode) : CalmAt P (Instr.sliceBound x y c) := by
 unfold Instr.sliceBound
 repeat' (first | exact CLM | with_reducible exact zau P _ _ _ | with_reducible refine zad ?_ (fun _ => ?_) | with_reducible refine zap ?_ ?_ | split | dsimp only)
theorem zcR (P : Program) (b : Bool) (len cap : Nat) (lo hi mx : Option Value) : CalmAt P (Instr.sliceBounds b len cap lo hi mx) := by
 unfold Instr.sliceBounds
 repeat' (first | exact CLM | with_reducible exact zfS P _ _ _ | with_reducible exact zau P _ _ _ | with_reducible refine zad ?_ (fun _ => ?_) | with_reducible refine zap ?_ ?_ | split | dsimp only)
theorem zlF (P : Program) (t : TypeId) (x : Value) (lo hi mx : Option Value) : CalmAt P (Instr.slice t x lo hi mx) := by
 unfold Instr.slice
 repeat' (first | exact CLM | with_reducible exact zcR P _ _ _ _ _ _ | with_reducible exact zau P _ _ _ | with_reducible refine zad ?_ (fun _ => ?_) | with_reducible refine zap ?_ ?_ | split | dsimp only)
theorem zio (P : Program) (t : TypeId) (x : Value) (lo hi mx : Option Value) : CalmAt P (Instr.sliceAt t x lo hi mx) := by
 unfold Instr.sliceAt
 repeat' (first | exact CLM | with_reducible exact zcR P _ _ _ _ _ _ | with_reducible exact zlF P _ _ _ _ _ | with_reducible exact zau P _ _ _ | with_reducible refine zad ?_ (fun _ => ?_) | with_reducible refine zap ?_ ?_ | split | dsimp only)
theorem zgY (P : Program) (op : BinOp) (a b : ByteArray) : CalmAt P (Op.stringOp op a b) := by
 unfold Op.stringOp
 repeat' (first | exact CLM | with_reducible exact zau P _ _ _ | with_reducible refine zad ?_ (fun _ => ?_) | with_reducible refine zap ?_ ?_ | split | dsimp only)
theorem zaQ (P : Program) (op : BinOp) (k : IntKind) (a b : Int) : CalmAt P (Op.intArith op k a b) := by
 unfold Op.intArith
 repeat' (first | exact CLM | with_reducible exact zau P _ _ _ | with_reducible refine zad ?_ (fun _ => ?_) | with_reducible refine zap ?_ ?_ | split | dsimp only)
theorem zaT (P : Program) (op : BinOp) (k : IntKind) (a b : Int) : CalmAt P (Op.intBits op k a b) := by
 unfold Op.intBits
 repeat' (first | exact CLM | with_reducible exact zau P _ _ _ | with_reducible refine zad ?_ (fun _ => ?_) | with_reducible refine zap ?_ ?_ | split | dsimp only)
theorem zgN (P : Program) (op : BinOp) (k k' : IntKind) (a b : Int) : CalmAt P (Op.shift op k a k' b) := by
 unfold Op.shift
 repeat' (first | exact CLM | with_reducible exact zaQ P _ _ _ _ | with_reducible exact zaT P _ _ _ _ | with_reducible exact zau P _ _ _ | with_reducible refine zad ?_ (fun _ => ?_) | with_reducible refine zap ?_ ?_ | split | dsimp only)
theorem zfM (P : Program) (op : BinOp) (k : IntKind) (a b : Int) : CalmAt P (Op.intDiv op k a b) := by
 unfold Op.intDiv
 repeat' (first | exact CLM | with_reducible exact zaQ P _ _ _ _ | with_reducible exact zaT P _ _ _ _ | with_reducible exact zau P _ _ _ | with_reducible refine zad ?_ (fun _ => ?_) | with_reducible refine zap ?_ ?_ | split | dsimp only)
theorem zjG (P : Program) (op : BinOp) (a b : Int) : CalmAt P (Op.intCmp op a b) := by
 unfold Op.intCmp
 repeat' (first | exact CLM | with_reducible exact zaQ P _ _ _ _ | with_reducible exact zaT P _ _ _ _ | with_reducible exact zau P _ _ _ | with_reducible refine zad ?_ (fun _ => ?_) | with_reducible refine zap ?_ ?_ | split | dsimp only)
theorem zjs (P : Program) (op : BinOp) (t : TypeId) (k k' : IntKind) (a b : Int) : CalmAt P (binOp op t (.int k a) (.int k' b)) := by
 cases op
 case shl => exact (zgN P .shl k k' a b : CalmAt P (Op.shift .shl k a k' b))
 case shr => exact (zgN P .shr k k' a b : CalmAt P (Op.shift .shr k a k' b))
 case add => exact zap (zam P _) (zaQ P _ _ _ _)
 case sub => exact zap (zam P _) (zaQ P _ _ _ _)
 case mul => exact zap (zam P _) (zaQ P _ _ _ _)
 case quo => exact zap (zam P _) (zfM P _ _ _ _)
 case rem => exact zap (zam P _) (zfM P _ _ _ _)
 case and => exact zap (zam P _) (zaT P _ _ _ _)
 case or => exact zap (zam P _) (zaT P _ _ _ _)
 case xor => exact zap (zam P _) (zaT P _ _ _ _)
 case andNot => exact zap (zam P _) (zaT P _ _ _ _)
 all_goals exact zap (zam P _) (zjG P _ _ _)
theorem zgk (P : Program) (op : BinOp) (t : TypeId) (a b : ByteArray) : CalmAt P (binOp op t (.string a) (.string b)) := by
 have h : binOp op t (.string a) (.string b) = Op.stringOp op a b := by cases op <;> rfl
 rw [h]; exact zgY P op a b
theorem zdl (P : Program) (t : TypeId) (a b : Bool) : CalmAt P (Op.equal t (.bool a) (.bool b)) := by
 unfold Op.equal Op.maxDepth
 have h : Op.equalIn 10000 t (.bool a) (.bool b) = (do
   match ← underlying t with
   | .bool => pure (a == b)
   | _ => stuck "==: the operands do not fit the type, or the type is not comparable") := by
  show (underlying t >>= fun d => _) = (underlying t >>= fun d => _)
  congr 1
  funext d
  cases d <;> rfl
 rw [h]
 repeat' (first | exact CLM | with_reducible exact zaQ P _ _ _ _ | with_reducible exact zaT P _ _ _ _ | with_reducible exact zau P _ _ _ | with_reducible refine zad ?_ (fun _ => ?_) | with_reducible refine zap ?_ ?_ | split | dsimp only)
theorem ziQ (P : Program) (op : BinOp) (t : TypeId) (a b : Bool) : CalmAt P (binOp op t (.bool a) (.bool b)) := by
 cases op
 case eql => exact zad (zdl P t a b) fun _ => zaf P _
 case neq => exact zad (zdl P t a b) fun _ => zaf P _
 all_goals exact zam P _
theorem zlQ (P : Program) (op : UnOp) (x : Value) : CalmAt P (Op.unary op x) := by
 unfold Op.unary
 repeat' (first | exact CLM | with_reducible exact zaQ P _ _ _ _ | with_reducible exact zaT P _ _ _ _ | with_reducible exact zau P _ _ _ | with_reducible refine zad ?_ (fun _ => ?_) | with_reducible refine zap ?_ ?_ | split | dsimp only)
theorem zgr (P : Program) (s d : TypeId) (k : IntKind) (n : Int) : CalmAt P (Conv.unsafePointer s d (.int k n)) := by
 unfold Conv.unsafePointer
 refine zad (zat P s) fun ds => ?_
 refine zad (zat P d) fun dd => ?_
 cases ds <;> cases dd <;> first | exact zam P _ | (dsimp only; split <;> first | contradiction | exact zaw P _ | exact zam P _)
theorem zfz (P : Program) (s d : TypeId) (k : IntKind) (n : Int) : CalmAt P (convert s d (.int k n)) := by
 unfold convert
 refine zad (zat P s) fun ds => ?_
 refine zad (zat P d) fun dd => ?_
 cases ds <;> cases dd <;> first | exact zaf P _ | exact zaw P _ | exact zam P _ | exact zgr P s d k n
theorem zqh (P : Program) (ats : Array TypeId) (t : TypeId) (x : Value) (hx : (match x with | .string _ | .slice .. => true | _ => false) = true) :
  CalmAt P (Builtin.len_ ats t #[x]) := by
 unfold Builtin.len_
 cases hu : ats[0]? with
 | none => exact zam P _
 | some u =>
  refine zad (zat P u) fun d => ?_
  cases x <;> simp only [Bool.false_eq_true] at hx <;> cases d <;> first | exact zaf P _ | exact zam P _ | (refine zad (zat P _) fun d' => ?_; cases d' <;> first | exact zaf P _ | exact zam P _)
theorem zgl (P : Program) (t : TypeId) : CalmAt P (zeroValue t) := by
 unfold zeroValue; refine zad (zdK P t) fun i => ?_; split
 ·exact zaf P _
 ·exact zaw P _
theorem zei {α β : Type} {P : Program} (f : α → Sem β) (hf : ∀ a, CalmAt P (f a)) : ∀ (l : List α), CalmAt P (l.mapM f)
 | [] => by rw [List.mapM_nil]; exact zaf P _
 | a :: l => by rw [List.mapM_cons]; exact zad (hf a) fun _ => zad (zei f hf l) fun _ => zaf P _
theorem zmu {α β : Type} {P : Program} (f : α → Sem β) (hf : ∀ a, CalmAt P (f a)) (as : Array α) : CalmAt P (as.mapM f) := by
 rw [Array.mapM_eq_mapM_toList]; exact zpp (zei f hf _)
theorem zlL (P : Program) (t : TypeId) (parts : Array (Nat × Value)) : CalmAt P (Instr.build t parts) := by
 unfold Instr.build
 refine zad (zgl P t) fun z => ?_
 refine zad (zat P t) fun d => ?_
 split
 ·refine zad (zmu _ (fun f => zad (zbf P _) fun _ => zaf P _) _) fun _ => ?_
  split
  ·exact zaf P _
  ·exact zam P _
 ·refine zad (zbf P _) fun _ => ?_
  split
  ·exact zaf P _
  ·exact zam P _
 ·exact zam P _
inductive OpKind where
 | pure | read | other
 deriving DecidableEq
theorem zcq {α β : Type} {P : Program} (f : α → β → Sem (ForInStep β)) (h : ∀ a b, CalmAt P (f a b)) : ∀ (l : List α) (b : β), CalmAt P (forIn l b f)
 | [], b => by rw [List.forIn_nil]; exact zaf P _
 | a :: l, b => by
  rw [List.forIn_cons]
  refine zad (h a b) fun s => ?_
  cases s with
  | done b => exact zaf P _
  | yield b => exact zcq f h l b
def intsB (a : Array Value) : Bool := a.toList.all fun v => match v with | .int .. => true | _ => false
def Ints_ (v : Value) : Prop := (∃ k n, v = .int k n) ∨ ∃ cs, v = .agg cs ∧ intsB cs = true
theorem zbG {P : Program} {t : TypeId} {cs : Array Value} {off : Nat} {w w' : World} {v : Value} (hc : intsB cs = true) (h : (part t cs off).run P w = .ok v w') : Ints_ v := by
 unfold part at h
 obtain ⟨b, w1, h1, h2⟩ := zaL h
 split at h2
 ·obtain ⟨n, w2, h3, h4⟩ := zaL h2
  simp only [Sem.run_pure, Result.ok.injEq] at h4
  obtain ⟨rfl, rfl⟩ := h4
  refine .inr ⟨_, rfl, ?_⟩
  unfold intsB at hc ⊢
  rw [List.all_eq_true] at hc ⊢
  intro x hx
  refine hc x ?_
  rw [Array.toList_extract] at hx
  exact List.mem_of_mem_drop (List.mem_of_mem_take (by simpa [List.extract] using hx))
 ·split at h2
  ·rename_i u hu
   simp only [Sem.run_pure, Result.ok.injEq] at h2
   obtain ⟨rfl, rfl⟩ := h2
   unfold intsB at hc
   rw [List.all_eq_true] at hc
   have := hc u (by
    obtain ⟨hi, e⟩ := Array.getElem?_eq_some_iff.1 hu
    rw [← e]; exact Array.getElem_mem_toList hi)
   cases u <;> first | exact .inl ⟨_, _, rfl⟩ | cases this
  ·simp at h2
theorem zcg {P : Program} : ∀ (d : Nat) (t : TypeId) (x y : Value), Ints_ x → Ints_ y → CalmAt P (Op.equalIn d t x y)
 | 0, t, x, y, _, _ => by unfold Op.equalIn; exact zaw P _
 | d + 1, t, x, y, hx, hy => by
  unfold Op.equalIn
  refine zad (zat P t) fun u => ?_
  rcases hx with ⟨k, n, rfl⟩ | ⟨xs, rfl, hxs⟩ <;> rcases hy with ⟨k', n', rfl⟩ | ⟨ys, rfl, hys⟩ <;> cases u <;> try exact zam P _
  ·exact zap (zaf P _) (zam P _)
  ·dsimp only
   refine zad (zbf P _) fun n => ?_
   refine zad ?_ fun s => ?_
   ·rw [Std.Legacy.Range.forIn_eq_forIn_range']
    refine zcq _ (fun i s => ?_) _ _
    refine calm_bind' (zau P _ _ _) fun a w w' ha => ?_
    refine calm_bind' (zau P _ _ _) fun b w w' hb => ?_
    refine zad (zcg d _ a b (zbG hxs ha) (zbG hys hb)) fun c => ?_
    exact zap (zaf P _) (zaf P _)
   ·split
    ·exact zaf P _
    ·exact zaf P _
  ·dsimp only
   refine zad (zbF P) fun p => zap (zad (zaw P _) fun _ => ?_) ?_
   all_goals
    refine zad ?_ fun s => ?_
    ·rw [← Array.forIn_toList]
     refine zcq _ (fun f s => ?_) _ _
     refine zap ?_ (zaf P _)
     refine calm_bind' (zau P _ _ _) fun a w w' ha => ?_
     refine calm_bind' (zau P _ _ _) fun b w w' hb => ?_
     refine zad (zcg d _ a b (zbG hxs ha) (zbG hys hb)) fun c => ?_
     exact zap (zaf P _) (zaf P _)
    ·split
     ·exact zaf P _
     ·exact zaf P _
theorem zck {P : Program} : ∀ (d : Nat) (t : TypeId) (x y : Value), Ints_ x → Ints_ y → CalmAt P (Op.eqGuardIn d t x y)
 | 0, t, x, y, _, _ => by unfold Op.eqGuardIn; exact zaw P _
 | d + 1, t, x, y, hx, hy => by
  unfold Op.eqGuardIn
  refine zad (zat P t) fun u => ?_
  rcases hx with ⟨k, n, rfl⟩ | ⟨xs, rfl, hxs⟩ <;> rcases hy with ⟨k', n', rfl⟩ | ⟨ys, rfl, hys⟩ <;> cases u <;> try exact zaf P _
  ·dsimp only
   refine zad (zbf P _) fun n => ?_
   refine zad ?_ fun s => ?_
   ·rw [Std.Legacy.Range.forIn_eq_forIn_range']
    refine zcq _ (fun i s => ?_) _ _
    refine calm_bind' (zau P _ _ _) fun a w w' ha => ?_
    refine calm_bind' (zau P _ _ _) fun b w w' hb => ?_
    refine zad (zck d _ a b (zbG hxs ha) (zbG hys hb)) fun c => ?_
    exact zap (zaf P _) (zaf P _)
   ·split
    ·exact zaf P _
    ·exact zaf P _
  ·dsimp only
   all_goals
    refine zad ?_ fun s => ?_
    ·rw [← Array.forIn_toList]
     refine zcq _ (fun f s => ?_) _ _
     refine zap ?_ (zaf P _)
     refine calm_bind' (zau P _ _ _) fun a w w' ha => ?_
     refine calm_bind' (zau P _ _ _) fun b w w' hb => ?_
     refine zad (zck d _ a b (zbG hxs ha) (zbG hys hb)) fun c => ?_
     exact zap (zaf P _) (zaf P _)
    ·split
     ·exact zaf P _
     ·exact zaf P _
theorem zjr (P : Program) (op : BinOp) (t : TypeId) (a b : Array Value) (ha : intsB a = true) (hb : intsB b = true) : CalmAt P (binOp op t (.agg a) (.agg b)) := by
 cases op
 case eql => exact zad (zcg _ t _ _ (.inr ⟨_, rfl, ha⟩) (.inr ⟨_, rfl, hb⟩)) fun _ => zaf P _
 case neq => exact zad (zcg _ t _ _ (.inr ⟨_, rfl, ha⟩) (.inr ⟨_, rfl, hb⟩)) fun _ => zaf P _
 all_goals exact zam P _
theorem zfX (P : Program) (op : BinOp) (t : TypeId) (x y : Operand) (a b : Array Value) (ha : intsB a = true) (hb : intsB b = true) : CalmAt P (eqGuard op t x y (.agg a) (.agg b)) := by
 have h : CalmAt P (do
   if !((← program).eqGuardType (← program).depth t) then return
   if ← Op.eqGuardIn Op.maxDepth t (.agg a) (.agg b) then unsupported (.noEntry "binop/eql: two nil values of an interface type with methods, in a part of a struct or an array")) := by
  refine zad (zbF P) fun p => zad (zbF P) fun q => ?_
  refine zap (zaf P _) (zad (zck _ t _ _ (.inr ⟨_, rfl, ha⟩) (.inr ⟨_, rfl, hb⟩)) fun c => zap (zaw P _) (zaf P _))
 cases op
 case eql => exact h
 case neq => exact h
 all_goals exact zaf P _
def kindOf (P : Program) (o : Oper) : OpKind :=
 match o.op with
 | .binOp .eql t _ _ _ => (match P.underlying t with | some (.struct _) => .other | _ => .pure)
 | .binOp .neq t _ _ _ => (match P.underlying t with | some (.struct _) => .other | _ => .pure)
 | .move _ | .assign _ | .pick .. | .build .. | .nilCheck _ | .binOp .. | .unOp .. | .slice .. | .field .. | .indexAddr .. | .index .. | .extract .. | .makeInterface .. | .makeFunc .. => .pure
 | .fieldAddr s _ f => if fieldSized P s f then .pure else .other
 | .call { callee := .builtin .len, args, .. } => if args.size = 1 then .pure else .other
 | .call { callee := .builtin .min, args, .. } => if args.size = 2 then .pure else .other
 | .call { callee := .builtin .max, args, .. } => if args.size = 2 then .pure else .other
 | .load .. => .read
 | .convert s _ _ => (match P.underlying s with | some (.int _) => .pure | _ => .other)
 | _ => .other
def calmOk (ρ : Operand → Value) (o : Oper) : Bool :=
 match o.op with
 | .nilCheck x => (match ρ x with | .func .. => false | _ => true)
 | .binOp _ _ x y _ => (match ρ x, ρ y with | .int .., .int .. => true | .string _, .string _ => true | .bool _, .bool _ => true | .agg a, .agg b => intsB a && intsB b | _, _ => false)
 | .convert _ _ x => (match ρ x with | .int .. => true | _ => false)
 | .call { callee := .builtin .len, args, .. } => (match ρ (args.getD 0 (.const undef)) with | .string _ | .slice .. => true | _ => false)
 | .call { callee := .builtin .min, args, .. } => (match ρ (args.getD 0 (.const undef)), ρ (args.getD 1 (.const undef)) with | .int .., .int .. => true | _, _ => false)
 | .call { callee := .builtin .max, args, .. } => (match ρ (args.getD 0 (.const undef)), ρ (args.getD 1 (.const undef)) with | .int .., .int .. => true | _, _ => false)
 | _ => true
def CalmV (P : Program) (e : Sem Next) : Prop := ∀ w n w', e.run P w = .ok n w' → ∃ v, n = .value v ∧ w' = w ∧ ∀ w2, e.run P w2 = .ok (.value v) w2
theorem zaO {P : Program} {s : Sem Value} (h : CalmAt P s) : CalmV P (do Pure.pure (Next.value (← s))) := fun w n w' hr => by
 obtain ⟨v, w1, h1, h2⟩ := zaL hr
 obtain ⟨rfl, k⟩ := h _ _ _ h1
 simp only [Sem.run_pure, Result.ok.injEq] at h2
 obtain ⟨rfl, rfl⟩ := h2
 exact ⟨v, rfl, rfl, fun w2 => by rw [Sem.run_bind, k w2]; rfl⟩
theorem zdj (P : Program) (v : Value) : CalmV P (Pure.pure (Next.value v)) := fun w n w' h => by
 simp only [Sem.run_pure, Result.ok.injEq] at h
 obtain ⟨rfl, rfl⟩ := h
 exact ⟨v, rfl, rfl, fun _ => rfl⟩
theorem zfp {P : Program} {e : Sem Next} (h : Never P e) : CalmV P e := fun w n w' hr => absurd hr (h w n w')
theorem zda (P : Program) (op : BinOp) (t : TypeId) (x y : Operand) (a b : Value) (h : (match a, b with | .int .., .int .. => true | .string _, .string _ => true | .bool _, .bool _ => true | _, _ => false) = true) :
  CalmAt P (eqGuard op t x y a b) := by
 cases a <;> cases b <;> simp only [Bool.false_eq_true] at h <;> cases op <;> exact zaf P _
theorem zfs {P : Program} {ρ : Operand → Value} {o : Oper} (hk : kindOf P o = .pure) (hc : calmOk ρ o = true) : CalmV P (execOp ρ o) := by
 obtain ⟨dst, op, type, pos, after, guard⟩ := o
 cases op <;> simp only [kindOf, reduceCtorEq] at hk <;> simp only [calmOk] at hc <;> simp only [execOp]
 case move x => exact zdj P _
 case assign x => exact zdj P _
 case pick c a b =>
  intro w n w' hr
  obtain ⟨v, w1, h1, h2⟩ := zaL hr
  obtain ⟨rfl, k⟩ := zff P _ _ _ _ h1
  simp only [Sem.run_pure, Result.ok.injEq] at h2
  obtain ⟨rfl, rfl⟩ := h2
  exact ⟨_, rfl, rfl, fun w2 => by rw [Sem.run_bind, k w2]; rfl⟩
 case nilCheck x =>
  cases hx : ρ x <;> simp only [hx] at hc ⊢ <;> first
   | exact zdj P _
   | exact zfp (zaI P _)
   | (rename_i q; cases q <;> first | exact zdj P _ | exact zfp (zaI P _))
   | cases hc
 case binOp op xt x y yt =>
  cases hx : ρ x <;> cases hy : ρ y <;> simp only [hx, hy, Bool.false_eq_true, Bool.and_eq_true] at hc
  ·exact zaO (zad (zda P _ _ _ _ _ _ rfl) fun _ => ziQ P _ _ _ _)
  ·exact zaO (zad (zda P _ _ _ _ _ _ rfl) fun _ => zjs P _ _ _ _ _ _)
  ·exact zaO (zad (zda P _ _ _ _ _ _ rfl) fun _ => zgk P _ _ _ _)
  ·exact zaO (zad (zfX P _ _ _ _ _ _ hc.1 hc.2) fun _ => zjr P _ _ _ _ hc.1 hc.2)
 case unOp op t x => exact zaO (zlQ P _ _)
 case build t ps => exact zaO (zlL P _ _)
 case convert s d x =>
  cases hx : ρ x <;> simp only [hx, Bool.false_eq_true] at hc
  exact zaO (zfz P _ _ _ _)
 case slice t x lo hi mx => exact zaO (zio P _ _ _ _ _)
 case fieldAddr s x f =>
  split at hk
  ·rename_i h; exact zaO (zjb h _)
  ·cases hk
 case field t x f => exact zaO (zlB P _ _ _)
 case indexAddr t x i => exact zaO (zjf P _ _ _)
 case index t x i => exact zaO (zlY P _ _ _)
 case makeInterface t x => exact zaO (zef P _ _)
 case makeFunc fn a b => exact zaO (zaf P _)
 case extract t i => exact zaO (ziZ P _ _)
 case call c =>
  obtain ⟨callee, args, ats⟩ := c
  cases callee with
  | value f => cases hk
  | invoke r m => cases hk
  | builtin b =>
   cases b <;> simp only [reduceCtorEq] at hk
   case len =>
    split at hk
    ·rename_i hs
     obtain ⟨x, rfl⟩ : ∃ x, args = #[x] := Array.size_eq_one_iff.1 hs
     show CalmV P (do Pure.pure (Next.value (← Builtin.len_ ats type ((#[x] : Array Operand).map ρ))))
     rw [show (#[x] : Array Operand).map ρ = #[ρ x] from by simp]
     exact zaO (zqh P _ _ _ hc)
    ·cases hk
   case max =>
    split at hk
    ·rename_i hs
     obtain ⟨x, y, rfl⟩ : ∃ x y, args = #[x, y] := by
      obtain ⟨l⟩ := args
      match l, hs with
      | [x, y], _ => exact ⟨x, y, rfl⟩
     simp only [Array.getD_eq_getD_getElem?, List.getElem?_toArray, List.getElem?_cons_zero, List.getElem?_cons_succ, Option.getD_some] at hc
     cases hx : ρ x <;> cases hy : ρ y <;> simp only [hx, hy, Bool.false_eq_true] at hc
     rename_i k1 n1 k2 n2
     show CalmV P (do Pure.pure (Next.value (← Builtin.max_ ats type ((#[x, y] : Array Operand).map ρ))))
     rw [show (#[x, y] : Array Operand).map ρ = #[ρ x, ρ y] from by simp, hx, hy]
     exact zaO (zaf P _)
    ·cases hk
   case min =>
    split at hk
    ·rename_i hs
     obtain ⟨x, y, rfl⟩ : ∃ x y, args = #[x, y] := by
      obtain ⟨l⟩ := args
      match l, hs with
      | [x, y], _ => exact ⟨x, y, rfl⟩
     simp only [Array.getD_eq_getD_getElem?, List.getElem?_toArray, List.getElem?_cons_zero, List.getElem?_cons_succ, Option.getD_some] at hc
     cases hx : ρ x <;> cases hy : ρ y <;> simp only [hx, hy, Bool.false_eq_true] at hc
     rename_i k1 n1 k2 n2
     show CalmV P (do Pure.pure (Next.value (← Builtin.min_ ats type ((#[x, y] : Array Operand).map ρ))))
     rw [show (#[x, y] : Array Operand).map ρ = #[ρ x, ρ y] from by simp, hx, hy]
     exact zaO (zaf P _)
    ·cases hk
def Looks {α : Type} (P : Program) (e : Sem α) : Prop := ∀ w n w', e.run P w = .ok n w' → w' = w
theorem zgS (P : Program) (a : Addr) : Looks P (load a) := fun w n w' h => by
 rw [run_load] at h
 split at h
 ·simp only [Result.ok.injEq] at h; exact h.2.symm
 ·split at h
  ·simp only [Result.ok.injEq] at h; exact h.2.symm
  ·simp at h
theorem zdT {α : Type} {P : Program} {e : Sem α} (h : CalmAt P e) : Looks P e := fun w n w' hr => (h w n w' hr).1
theorem zco {α β : Type} {P : Program} {e : Sem α} {f : α → Sem β} (he : Looks P e) (hf : ∀ a, Looks P (f a)) : Looks P (e >>= f) := fun w n w' h => by
 obtain ⟨a, w1, h1, h2⟩ := zaL h
 obtain rfl := he _ _ _ h1
 exact hf _ _ _ _ h2
theorem zfG (P : Program) (a : Addr) : ∀ (n i : Nat) (acc : Array Value), Looks P (loadCellsFrom a i n acc)
 | 0, i, acc => zdT (zaf P _)
 | n + 1, i, acc => zco (zgS P _) fun v => zfG P a n (i + 1) _
theorem zhf (P : Program) (t : TypeId) (a : Addr) : Looks P (loadVar t a) := by
 unfold loadVar
 refine zco (zdT (zgE P t)) fun b => ?_
 split
 ·exact zco (zdT (zbf P t)) fun n => zco (zfG P a _ _ _) fun _ => zdT (zaf P _)
 ·exact zgS P a
theorem zgO {P : Program} {ρ : Operand → Value} {o : Oper} (hk : kindOf P o = .read) : ∀ w n w', (execOp ρ o).run P w = .ok n w' → w' = w ∧ ∃ v, n = .value v := by
 obtain ⟨dst, op, type, pos, after, guard⟩ := o
 intro w n w' h
 cases op <;> simp only [kindOf, reduceCtorEq] at hk
 case load t a =>
  simp only [execOp] at h
  obtain ⟨v, w1, h1, h2⟩ := zaL h
  have : Looks P (Instr.loadAt t (ρ a)) := zco (zdT (zcH P _)) fun _ => zhf P t _
  obtain rfl := this _ _ _ h1
  simp only [Sem.run_pure, Result.ok.injEq] at h2
  exact ⟨h2.2.symm, v, h2.1.symm⟩
 case fieldAddr s x f => split at hk <;> cases hk
 case binOp b t x y yt => cases b <;> simp only [reduceCtorEq] at hk <;> (split at hk <;> cases hk)
 case convert s d x => split at hk <;> cases hk
 case call c =>
  obtain ⟨callee, args, ats⟩ := c
  cases callee with
  | value f => cases hk
  | invoke r m => cases hk
  | builtin b => cases b <;> simp only [reduceCtorEq] at hk <;> (split at hk <;> cases hk)
end Go.Pw
