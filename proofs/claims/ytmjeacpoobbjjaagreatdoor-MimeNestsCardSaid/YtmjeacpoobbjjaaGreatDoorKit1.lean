/- Helper lemmas that the proved statement rests on; no conditions of their own. -/
import Derived.WalkKit
import Derived.Deep.QuietTactic
set_option linter.unusedVariables false
namespace Go.Pw
open Go
def CalmAt {α : Type} (P : Program) (e : Sem α) : Prop :=
 ∀ w n w', e.run P w = .ok n w' → w' = w ∧ ∀ w2, e.run P w2 = .ok n w2
def Never {α : Type} (P : Program) (e : Sem α) : Prop := ∀ w n w', e.run P w ≠ .ok n w'
theorem CalmAt.never {α : Type} {P : Program} {e : Sem α} (h : Never P e) : CalmAt P e := fun w n w' hr => absurd hr (h w n w')
theorem zag {α : Type} (P : Program) (a : α) : CalmAt P (Pure.pure a : Sem α) := fun w n w' h => by
 simp only [Sem.run_pure, Result.ok.injEq] at h
 obtain ⟨rfl, rfl⟩ := h
 exact ⟨rfl, fun _ => rfl⟩
theorem zdz {α : Type} (P : Program) (h : Halt) : CalmAt P (Sem.halt h : Sem α) := fun w n w' hr => by simp at hr
theorem zaj {α : Type} (P : Program) (s : String) : CalmAt P (stuck s : Sem α) := zdz P _
theorem zao {α : Type} (P : Program) (s : Unsupported) : CalmAt P (unsupported s : Sem α) := zdz P _
theorem zaR (P : Program) : CalmAt P program := fun w n w' h => by
 simp only [run_program, Result.ok.injEq] at h
 obtain ⟨rfl, rfl⟩ := h
 exact ⟨rfl, fun _ => rfl⟩
theorem zaC {α β : Type} {P : Program} {e : Sem α} {f : α → Sem β} {w w' : World} {b : β} (h : (e >>= f).run P w = .ok b w') :
  ∃ a w1, e.run P w = .ok a w1 ∧ (f a).run P w1 = .ok b w' := by
 rw [Sem.run_bind] at h
 cases he : e.run P w with
 | ok a w1 => rw [he] at h; exact ⟨a, w1, rfl, h⟩
 | halt x w1 => rw [he] at h; simp at h
theorem zac {α β : Type} {P : Program} {e : Sem α} {f : α → Sem β} (he : CalmAt P e) (hf : ∀ a, CalmAt P (f a)) : CalmAt P (e >>= f) := fun w n w' h => by
 obtain ⟨a, w1, h1, h2⟩ := zaC h
 obtain ⟨rfl, k1⟩ := he _ _ _ h1
 obtain ⟨rfl, k2⟩ := hf a _ _ _ h2
 exact ⟨rfl, fun w2 => by rw [Sem.run_bind, k1 w2]; exact k2 w2⟩
theorem zaT {α β : Type} {P : Program} {e : Sem α} {f : α → Sem β} (hf : ∀ a, Never P (f a)) : Never P (e >>= f) := fun w n w' h => by
 obtain ⟨a, w1, _, h2⟩ := zaC h; exact hf _ _ _ _ h2
theorem zef {α : Type} (P : Program) (h : Halt) : Never P (Sem.halt h : Sem α) := fun w n w' hr => by simp at hr
theorem zas {α : Type} (P : Program) (e : RuntimeError) : Never P (runtimePanic e : Sem α) := by
 unfold runtimePanic
 refine zaT fun p => ?_
 cases e <;> first
  | exact zef P _
  | exact zaT fun _ => zaT fun _ => zef P _
theorem zcy {α : Type} (P : Program) (k : IntKind) (x y : Int) (c : BoundsCode) : Never P (boundsPanic k x y c : Sem α) := by
 unfold boundsPanic
 dsimp only
 split
 ·exact zaT fun _ => zas P _
 ·exact zaT fun _ => zas P _
theorem zju {α β : Type} {P : Program} {e : Sem α} {f : α → β} (he : CalmAt P e) : CalmAt P (f <$> e) := fun w n w' h => by
 simp only [Sem.run_map] at h
 cases h1 : e.run P w with
 | ok a w1 =>
  rw [h1] at h
  simp only [Result.andThen_ok, Result.ok.injEq] at h
  obtain ⟨rfl, rfl⟩ := h
  obtain ⟨rfl, k⟩ := he _ _ _ h1
  exact ⟨rfl, fun w2 => by simp [k w2]⟩
 | halt x w1 => rw [h1] at h; simp at h
theorem zce (P : Program) (t : TypeId) : CalmAt P (typeInfo t) := by
 unfold typeInfo; refine zac (zaR P) fun p => ?_; split
 ·exact zag P _
 ·exact zaj P _
theorem zal (P : Program) (t : TypeId) : CalmAt P (underlying t) := by
 unfold underlying; refine zac (zaR P) fun p => ?_; split
 ·exact zag P _
 ·exact zaj P _
theorem zaJ (P : Program) (t : TypeId) : CalmAt P (sizeOf t) := by
 unfold sizeOf; exact zac (zce P t) fun _ => zag P _
theorem zeh (P : Program) (t : TypeId) : CalmAt P (isAgg t) := by
 unfold isAgg; refine zac (zal P t) fun d => ?_; split <;> exact zag P _
theorem zam (P : Program) (t : TypeId) (cs : Array Value) (off : Nat) : CalmAt P (part t cs off) := by
 unfold part
 refine zac (zeh P t) fun b => ?_
 split
 ·exact zac (zaJ P t) fun _ => zag P _
 ·split
  ·exact zag P _
  ·exact zaj P _
theorem zfw (P : Program) (v : Value) : CalmAt P (asIntOf v) := by
 unfold asIntOf; split
 ·exact zag P _
 ·exact zao P _
 ·exact zaj P _
theorem zcV (P : Program) (v : Value) : CalmAt P (asBool v) := by
 unfold asBool; split
 ·exact zag P _
 ·exact zaj P _
theorem zhw (P : Program) (v : Value) : CalmAt P (asAgg v) := by
 unfold asAgg; split
 ·exact zag P _
 ·exact zaj P _
theorem zbv (P : Program) (v : Value) : CalmAt P (Instr.sureAddr v) := by
 unfold Instr.sureAddr; split
 ·exact zag P _
 ·exact zaj P _
theorem zgH (P : Program) (v : Value) : CalmAt P (asAddr v) := by
 unfold asAddr; split
 ·exact zag P _
 ·exact .never (zas P _)
 ·exact zaj P _
def fieldSized (P : Program) (s f : Nat) : Bool :=
 match P.underlying s with
 | some (.struct fields) => (match fields[f]? with | some fd => (match P.info? fd.type with | some i => i.size != 0 | none => false) | none => false)
 | _ => false
theorem zfe {P : Program} {t : TypeId} {d : TypeDesc} {w w' : World} (h : (underlying t).run P w = .ok d w') : P.underlying t = some d := by
 unfold underlying at h
 rw [Sem.run_bind] at h
 simp only [run_program, Result.andThen_ok] at h
 split at h
 ·rename_i d' hd; simp only [Sem.run_pure, Result.ok.injEq] at h; rw [hd, h.1]
 ·simp at h
theorem zhV {P : Program} {t : TypeId} {n : Nat} {w w' : World} (h : (sizeOf t).run P w = .ok n w') : ∃ i, P.info? t = some i ∧ i.size = n := by
 unfold sizeOf at h
 obtain ⟨i, w1, h1, h2⟩ := zaC h
 simp only [Sem.run_pure, Result.ok.injEq] at h2
 unfold typeInfo at h1
 rw [Sem.run_bind] at h1
 simp only [run_program, Result.andThen_ok] at h1
 split at h1
 ·rename_i i' hi; simp only [Sem.run_pure, Result.ok.injEq] at h1; exact ⟨i', hi, by rw [h1.1]; exact h2.1⟩
 ·simp at h1
theorem calm_bind' {α β : Type} {P : Program} {e : Sem α} {f : α → Sem β} (he : CalmAt P e) (hf : ∀ a w w', e.run P w = .ok a w' → CalmAt P (f a)) : CalmAt P (e >>= f) := fun w n w' h => by
 obtain ⟨a, w1, h1, h2⟩ := zaC h
 obtain ⟨rfl, k1⟩ := he _ _ _ h1
 obtain ⟨rfl, k2⟩ := hf a _ _ h1 _ _ _ h2
 exact ⟨rfl, fun w2 => by rw [Sem.run_bind, k1 w2]; exact k2 w2⟩
theorem zfY {P : Program} {s : TypeId} {f : Nat} (hz : fieldSized P s f = true) (v : Value) : CalmAt P (Instr.fieldAt s v f) := by
 unfold Instr.fieldAt
 refine calm_bind' (zal P s) fun d w w' hd => ?_
 have hu := zfe hd
 split
 ·rename_i fields
  split
  ·rename_i fd hf
   refine zac (zbv P v) fun a => ?_
   refine zac ?_ fun _ => zag P _
   unfold fieldPlace
   refine calm_bind' (zaJ P _) fun n w w' hn => ?_
   obtain ⟨i, hi, hin⟩ := zhV hn
   split
   ·rename_i h0
    simp [fieldSized, hu, hf, hi, hin, h0] at hz
   ·exact zag P _
  ·exact zaj P _
 ·exact zaj P _
theorem zak {α : Type} {P : Program} {c : Prop} [Decidable c] {x y : Sem α} (hx : CalmAt P x) (hy : CalmAt P y) : CalmAt P (if c then x else y) := by
 split
 ·exact hx
 ·exact hy
theorem zgE {α : Type} (P : Program) (k : IntKind) (x y : Int) (c : BoundsCode) : CalmAt P (boundsPanic k x y c : Sem α) := .never (zcy P k x y c)
theorem zlE {α : Type} (P : Program) (e : RuntimeError) : CalmAt P (runtimePanic e : Sem α) := .never (zas P e)
theorem CLM {p : Prop} (h : p := by first | with_reducible exact zag _ _ | with_reducible exact zaj _ _ | with_reducible exact zao _ _ | with_reducible exact zdz _ _ | with_reducible exact zgE _ _ _ _ _ | with_reducible exact zlE _ _ | with_reducible exact zfw _ _ | with_reducible exact zcV _ _ | with_reducible exact zhw _ _ | with_reducible exact zal _ _ | with_reducible exact zbv _ _ | with_reducible exact zgH _ _ | with_reducible exact zaJ _ _) : p := h
theorem zgb (P : Program) (t : TypeId) (x ix : Value) : CalmAt P (Instr.indexAt t x ix) := by
 unfold Instr.indexAt
 repeat' (first | exact CLM | with_reducible exact zam P _ _ _ | with_reducible refine zac ?_ (fun _ => ?_) | with_reducible refine zak ?_ ?_ | split | dsimp only)
theorem zhI (P : Program) (t : TypeId) (x ix : Value) : CalmAt P (Instr.index t x ix) := by
 unfold Instr.index
 repeat' (first | exact CLM | with_reducible exact zam P _ _ _ | with_reducible refine zac ?_ (fun _ => ?_) | with_reducible refine zak ?_ ?_ | split | dsimp only)
theorem zhr (P : Program) (t : TypeId) (x : Value) (f : Nat) : CalmAt P (Instr.field t x f) := by
 unfold Instr.field
 repeat' (first | exact CLM | with_reducible exact zam P _ _ _ | with_reducible refine zac ?_ (fun _ => ?_) | with_reducible refine zak ?_ ?_ | split | dsimp only)
theorem zfX (P : Program) (x : Value) (i : Nat) : CalmAt P (Instr.extract x i) := by
 unfold Instr.extract
 repeat' (first | exact CLM | with_reducible exact zam P _ _ _ | with_reducible refine zac ?_ (fun _ => ?_) | with_reducible refine zak ?_ ?_ | split | dsimp only)
theorem zcq (P : Program) (t : TypeId) (x : Value) : CalmAt P (Instr.makeInterface t x) := by
 unfold Instr.makeInterface
 repeat' (first | exact CLM | with_reducible exact zam P _ _ _ | with_reducible refine zac ?_ (fun _ => ?_) | with_reducible refine zak ?_ ?_ | split | dsimp only)
theorem zdy (P : Program) (x : Value) (y : Nat) (c : BoundsCode) : CalmAt P (Instr.sliceBound x y c) := by
 unfold Instr.sliceBound
 repeat' (first | exact CLM | with_reducible exact zam P _ _ _ | with_reducible refine zac ?_ (fun _ => ?_) | with_reducible refine zak ?_ ?_ | split | dsimp only)
theorem zbA (P : Program) (b : Bool) (len cap : Nat) (lo hi mx : Option Value) : CalmAt P (Instr.sliceBounds b len cap lo hi mx) := by
 unfold Instr.sliceBounds
 repeat' (first | exact CLM | with_reducible exact zdy P _ _ _ | with_reducible exact zam P _ _ _ | with_reducible refine zac ?_ (fun _ => ?_) | with_reducible refine zak ?_ ?_ | split | dsimp only)
theorem zhv (P : Program) (t : TypeId) (x : Value) (lo hi mx : Option Value) : CalmAt P (Instr.slice t x lo hi mx) := by
 unfold Instr.slice
 repeat' (first | exact CLM | with_reducible exact zbA P _ _ _ _ _ _ | with_reducible exact zam P _ _ _ | with_reducible refine zac ?_ (fun _ => ?_) | with_reducible refine zak ?_ ?_ | split | dsimp only)
theorem zfx (P : Program) (t : TypeId) (x : Value) (lo hi mx : Option Value) : CalmAt P (Instr.sliceAt t x lo hi mx) := by
 unfold Instr.sliceAt
 repeat' (first | exact CLM | with_reducible exact zbA P _ _ _ _ _ _ | with_reducible exact zhv P _ _ _ _ _ | with_reducible exact zam P _ _ _ | with_reducible refine zac ?_ (fun _ => ?_) | with_reducible refine zak ?_ ?_ | split | dsimp only)
theorem zeA (P : Program) (op : BinOp) (a b : ByteArray) : CalmAt P (Op.stringOp op a b) := by
 unfold Op.stringOp
 repeat' (first | exact CLM | with_reducible exact zam P _ _ _ | with_reducible refine zac ?_ (fun _ => ?_) | with_reducible refine zak ?_ ?_ | split | dsimp only)
theorem zax (P : Program) (op : BinOp) (k : IntKind) (a b : Int) : CalmAt P (Op.intArith op k a b) := by
 unfold Op.intArith
 repeat' (first | exact CLM | with_reducible exact zam P _ _ _ | with_reducible refine zac ?_ (fun _ => ?_) | with_reducible refine zak ?_ ?_ | split | dsimp only)
theorem zaz (P : Program) (op : BinOp) (k : IntKind) (a b : Int) : CalmAt P (Op.intBits op k a b) := by
 unfold Op.intBits
 repeat' (first | exact CLM | with_reducible exact zam P _ _ _ | with_reducible refine zac ?_ (fun _ => ?_) | with_reducible refine zak ?_ ?_ | split | dsimp only)
theorem zeq (P : Program) (op : BinOp) (k k' : IntKind) (a b : Int) : CalmAt P (Op.shift op k a k' b) := by
 unfold Op.shift
 repeat' (first | exact CLM | with_reducible exact zax P _ _ _ _ | with_reducible exact zaz P _ _ _ _ | with_reducible exact zam P _ _ _ | with_reducible refine zac ?_ (fun _ => ?_) | with_reducible refine zak ?_ ?_ | split | dsimp only)
theorem zdt (P : Program) (op : BinOp) (k : IntKind) (a b : Int) : CalmAt P (Op.intDiv op k a b) := by
 unfold Op.intDiv
 repeat' (first | exact CLM | with_reducible exact zax P _ _ _ _ | with_reducible exact zaz P _ _ _ _ | with_reducible exact zam P _ _ _ | with_reducible refine zac ?_ (fun _ => ?_) | with_reducible refine zak ?_ ?_ | split | dsimp only)
theorem zgA (P : Program) (op : BinOp) (a b : Int) : CalmAt P (Op.intCmp op a b) := by
 unfold Op.intCmp
 repeat' (first | exact CLM | with_reducible exact zax P _ _ _ _ | with_reducible exact zaz P _ _ _ _ | with_reducible exact zam P _ _ _ | with_reducible refine zac ?_ (fun _ => ?_) | with_reducible refine zak ?_ ?_ | split | dsimp only)
theorem zgm (P : Program) (op : BinOp) (t : TypeId) (k k' : IntKind) (a b : Int) : CalmAt P (binOp op t (.int k a) (.int k' b)) := by
 cases op
 case shl => exact (zeq P .shl k k' a b : CalmAt P (Op.shift .shl k a k' b))
 case shr => exact (zeq P .shr k k' a b : CalmAt P (Op.shift .shr k a k' b))
 case add => exact zak (zaj P _) (zax P _ _ _ _)
 case sub => exact zak (zaj P _) (zax P _ _ _ _)
 case mul => exact zak (zaj P _) (zax P _ _ _ _)
 case quo => exact zak (zaj P _) (zdt P _ _ _ _)
 case rem => exact zak (zaj P _) (zdt P _ _ _ _)
 case and => exact zak (zaj P _) (zaz P _ _ _ _)
 case or => exact zak (zaj P _) (zaz P _ _ _ _)
 case xor => exact zak (zaj P _) (zaz P _ _ _ _)
 case andNot => exact zak (zaj P _) (zaz P _ _ _ _)
 all_goals exact zak (zaj P _) (zgA P _ _ _)
theorem zdM (P : Program) (op : BinOp) (t : TypeId) (a b : ByteArray) : CalmAt P (binOp op t (.string a) (.string b)) := by
 have h : binOp op t (.string a) (.string b) = Op.stringOp op a b := by cases op <;> rfl
 rw [h]; exact zeA P op a b
theorem zbN (P : Program) (t : TypeId) (a b : Bool) : CalmAt P (Op.equal t (.bool a) (.bool b)) := by
 unfold Op.equal Op.maxDepth
 have h : Op.equalIn 10000 t (.bool a) (.bool b) = (do
   match ← underlying t with
   | .bool => pure (a == b)
   | _ => stuck "==: the operands do not fit the type, or the type is not comparable") := by
  show (underlying t >>= fun d => _) = (underlying t >>= fun d => _)
  congr 1
  funext d
  cases d <;> rfl
 rw [h]
 repeat' (first | exact CLM | with_reducible exact zax P _ _ _ _ | with_reducible exact zaz P _ _ _ _ | with_reducible exact zam P _ _ _ | with_reducible refine zac ?_ (fun _ => ?_) | with_reducible refine zak ?_ ?_ | split | dsimp only)
theorem zfP (P : Program) (op : BinOp) (t : TypeId) (a b : Bool) : CalmAt P (binOp op t (.bool a) (.bool b)) := by
 cases op
 case eql => exact zac (zbN P t a b) fun _ => zag P _
 case neq => exact zac (zbN P t a b) fun _ => zag P _
 all_goals exact zaj P _
theorem zhD (P : Program) (op : UnOp) (x : Value) : CalmAt P (Op.unary op x) := by
 unfold Op.unary
 repeat' (first | exact CLM | with_reducible exact zax P _ _ _ _ | with_reducible exact zaz P _ _ _ _ | with_reducible exact zam P _ _ _ | with_reducible refine zac ?_ (fun _ => ?_) | with_reducible refine zak ?_ ?_ | split | dsimp only)
theorem zdT (P : Program) (s d : TypeId) (k : IntKind) (n : Int) : CalmAt P (Conv.unsafePointer s d (.int k n)) := by
 unfold Conv.unsafePointer
 refine zac (zal P s) fun ds => ?_
 refine zac (zal P d) fun dd => ?_
 cases ds <;> cases dd <;> first | exact zaj P _ | (dsimp only; split <;> first | contradiction | exact zao P _ | exact zaj P _)
theorem zdf (P : Program) (s d : TypeId) (k : IntKind) (n : Int) : CalmAt P (convert s d (.int k n)) := by
 unfold convert
 refine zac (zal P s) fun ds => ?_
 refine zac (zal P d) fun dd => ?_
 cases ds <;> cases dd <;> first | exact zag P _ | exact zao P _ | exact zaj P _ | exact zdT P s d k n
theorem zjZ (P : Program) (ats : Array TypeId) (t : TypeId) (x : Value) (hx : (match x with | .string _ | .slice .. => true | _ => false) = true) :
  CalmAt P (Builtin.len_ ats t #[x]) := by
 unfold Builtin.len_
 cases hu : ats[0]? with
 | none => exact zaj P _
 | some u =>
  refine zac (zal P u) fun d => ?_
  cases x <;> simp only [Bool.false_eq_true] at hx <;> cases d <;> first | exact zag P _ | exact zaj P _ | (refine zac (zal P _) fun d' => ?_; cases d' <;> first | exact zag P _ | exact zaj P _)
theorem zdO (P : Program) (t : TypeId) : CalmAt P (zeroValue t) := by
 unfold zeroValue; refine zac (zce P t) fun i => ?_; split
 ·exact zag P _
 ·exact zao P _
theorem zcs {α β : Type} {P : Program} (f : α → Sem β) (hf : ∀ a, CalmAt P (f a)) : ∀ (l : List α), CalmAt P (l.mapM f)
 | [] => by rw [List.mapM_nil]; exact zag P _
 | a :: l => by rw [List.mapM_cons]; exact zac (hf a) fun _ => zac (zcs f hf l) fun _ => zag P _
theorem zhU {α β : Type} {P : Program} (f : α → Sem β) (hf : ∀ a, CalmAt P (f a)) (as : Array α) : CalmAt P (as.mapM f) := by
 rw [Array.mapM_eq_mapM_toList]; exact zju (zcs f hf _)
theorem zhy (P : Program) (t : TypeId) (parts : Array (Nat × Value)) : CalmAt P (Instr.build t parts) := by
 unfold Instr.build
 refine zac (zdO P t) fun z => ?_
 refine zac (zal P t) fun d => ?_
 split
 ·refine zac (zhU _ (fun f => zac (zaJ P _) fun _ => zag P _) _) fun _ => ?_
  split
  ·exact zag P _
  ·exact zaj P _
 ·refine zac (zaJ P _) fun _ => ?_
  split
  ·exact zag P _
  ·exact zaj P _
 ·exact zaj P _
inductive OpKind where
 | pure | read | other
 deriving DecidableEq
theorem zbq {α β : Type} {P : Program} (f : α → β → Sem (ForInStep β)) (h : ∀ a b, CalmAt P (f a b)) : ∀ (l : List α) (b : β), CalmAt P (forIn l b f)
 | [], b => by rw [List.forIn_nil]; exact zag P _
 | a :: l, b => by
  rw [List.forIn_cons]
  refine zac (h a b) fun s => ?_
  cases s with
  | done b => exact zag P _
  | yield b => exact zbq f h l b
def intsB (a : Array Value) : Bool := a.toList.all fun v => match v with | .int .. => true | _ => false
def Ints_ (v : Value) : Prop := (∃ k n, v = .int k n) ∨ ∃ cs, v = .agg cs ∧ intsB cs = true
theorem zaS {P : Program} {t : TypeId} {cs : Array Value} {off : Nat} {w w' : World} {v : Value} (hc : intsB cs = true) (h : (part t cs off).run P w = .ok v w') : Ints_ v := by
 unfold part at h
 obtain ⟨b, w1, h1, h2⟩ := zaC h
 split at h2
 ·obtain ⟨n, w2, h3, h4⟩ := zaC h2
  simp only [Sem.run_pure, Result.ok.injEq] at h4
  obtain ⟨rfl, rfl⟩ := h4
  refine .inr ⟨_, rfl, ?_⟩
  unfold intsB at hc ⊢
  rw [List.all_eq_true] at hc ⊢
  intro x hx
  refine hc x ?_
  rw [Array.toList_extract] at hx
  exact List.mem_of_mem_drop (List.mem_of_mem_take (by simpa [List.extract] using hx))
 ·split at h2
  ·rename_i u hu
   simp only [Sem.run_pure, Result.ok.injEq] at h2
   obtain ⟨rfl, rfl⟩ := h2
   unfold intsB at hc
   rw [List.all_eq_true] at hc
   have := hc u (by
    obtain ⟨hi, e⟩ := Array.getElem?_eq_some_iff.1 hu
    rw [← e]; exact Array.getElem_mem_toList hi)
   cases u <;> first | exact .inl ⟨_, _, rfl⟩ | cases this
  ·simp at h2
theorem zbi {P : Program} : ∀ (d : Nat) (t : TypeId) (x y : Value), Ints_ x → Ints_ y → CalmAt P (Op.equalIn d t x y)
 | 0, t, x, y, _, _ => by unfold Op.equalIn; exact zao P _
 | d + 1, t, x, y, hx, hy => by
  unfold Op.equalIn
  refine zac (zal P t) fun u => ?_
  rcases hx with ⟨k, n, rfl⟩ | ⟨xs, rfl, hxs⟩ <;> rcases hy with ⟨k', n', rfl⟩ | ⟨ys, rfl, hys⟩ <;> cases u <;> try exact zaj P _
  ·exact zak (zag P _) (zaj P _)
  ·dsimp only
   refine zac (zaJ P _) fun n => ?_
   refine zac ?_ fun s => ?_
   ·rw [Std.Legacy.Range.forIn_eq_forIn_range']
    refine zbq _ (fun i s => ?_) _ _
    refine calm_bind' (zam P _ _ _) fun a w w' ha => ?_
    refine calm_bind' (zam P _ _ _) fun b w w' hb => ?_
    refine zac (zbi d _ a b (zaS hxs ha) (zaS hys hb)) fun c => ?_
    exact zak (zag P _) (zag P _)
   ·split
    ·exact zag P _
    ·exact zag P _
  ·dsimp only
   refine zac (zaR P) fun p => zak (zac (zao P _) fun _ => ?_) ?_
   all_goals
    refine zac ?_ fun s => ?_
    ·rw [← Array.forIn_toList]
     refine zbq _ (fun f s => ?_) _ _
     refine zak ?_ (zag P _)
     refine calm_bind' (zam P _ _ _) fun a w w' ha => ?_
     refine calm_bind' (zam P _ _ _) fun b w w' hb => ?_
     refine zac (zbi d _ a b (zaS hxs ha) (zaS hys hb)) fun c => ?_
     exact zak (zag P _) (zag P _)
    ·split
     ·exact zag P _
     ·exact zag P _
theorem zbl {P : Program} : ∀ (d : Nat) (t : TypeId) (x y : Value), Ints_ x → Ints_ y → CalmAt P (Op.eqGuardIn d t x y)
 | 0, t, x, y, _, _ => by unfold Op.eqGuardIn; exact zao P _
 | d + 1, t, x, y, hx, hy => by
  unfold Op.eqGuardIn
  refine zac (zal P t) fun u => ?_
  rcases hx with ⟨k, n, rfl⟩ | ⟨xs, rfl, hxs⟩ <;> rcases hy with ⟨k', n', rfl⟩ | ⟨ys, rfl, hys⟩ <;> cases u <;> try exact zag P _
  ·dsimp only
   refine zac (zaJ P _) fun n => ?_
   refine zac ?_ fun s => ?_
   ·rw [Std.Legacy.Range.forIn_eq_forIn_range']
    refine zbq _ (fun i s => ?_) _ _
    refine calm_bind' (zam P _ _ _) fun a w w' ha => ?_
    refine calm_bind' (zam P _ _ _) fun b w w' hb => ?_
    refine zac (zbl d _ a b (zaS hxs ha) (zaS hys hb)) fun c => ?_
    exact zak (zag P _) (zag P _)
   ·split
    ·exact zag P _
    ·exact zag P _
  ·dsimp only
   all_goals
    refine zac ?_ fun s => ?_
    ·rw [← Array.forIn_toList]
     refine zbq _ (fun f s => ?_) _ _
     refine zak ?_ (zag P _)
     refine calm_bind' (zam P _ _ _) fun a w w' ha => ?_
     refine calm_bind' (zam P _ _ _) fun b w w' hb => ?_
     refine zac (zbl d _ a b (zaS hxs ha) (zaS hys hb)) fun c => ?_
     exact zak (zag P _) (zag P _)
    ·split
     ·exact zag P _
     ·exact zag P _
theorem zgl (P : Program) (op : BinOp) (t : TypeId) (a b : Array Value) (ha : intsB a = true) (hb : intsB b = true) : CalmAt P (binOp op t (.agg a) (.agg b)) := by
 cases op
 case eql => exact zac (zbi _ t _ _ (.inr ⟨_, rfl, ha⟩) (.inr ⟨_, rfl, hb⟩)) fun _ => zag P _
 case neq => exact zac (zbi _ t _ _ (.inr ⟨_, rfl, ha⟩) (.inr ⟨_, rfl, hb⟩)) fun _ => zag P _
 all_goals exact zaj P _
theorem zdB (P : Program) (op : BinOp) (t : TypeId) (x y : Operand) (a b : Array Value) (ha : intsB a = true) (hb : intsB b = true) : CalmAt P (eqGuard op t x y (.agg a) (.agg b)) := by
 have h : CalmAt P (do
   if !((← program).eqGuardType (← program).depth t) then return
   if ← Op.eqGuardIn Op.maxDepth t (.agg a) (.agg b) then unsupported (.noEntry "binop/eql: two nil values of an interface type with methods, in a part of a struct or an array")) := by
  refine zac (zaR P) fun p => zac (zaR P) fun q => ?_
  refine zak (zag P _) (zac (zbl _ t _ _ (.inr ⟨_, rfl, ha⟩) (.inr ⟨_, rfl, hb⟩)) fun c => zak (zao P _) (zag P _))
 cases op
 case eql => exact h
 case neq => exact h
 all_goals exact zag P _
def kindOf (P : Program) (o : Oper) : OpKind :=
 match o.op with
 | .binOp .eql t _ _ _ => (match P.underlying t with | some (.struct _) => .other | _ => .pure)
 | .binOp .neq t _ _ _ => (match P.underlying t with | some (.struct _) => .other | _ => .pure)
 | .move _ | .assign _ | .pick .. | .build .. | .nilCheck _ | .binOp .. | .unOp .. | .slice .. | .field .. | .indexAddr .. | .index .. | .extract .. | .makeInterface .. | .makeFunc .. => .pure
 | .fieldAddr s _ f => if fieldSized P s f then .pure else .other
 | .call { callee := .builtin .len, args, .. } => if args.size = 1 then .pure else .other
 | .call { callee := .builtin .min, args, .. } => if args.size = 2 then .pure else .other
 | .call { callee := .builtin .max, args, .. } => if args.size = 2 then .pure else .other
 | .load .. => .read
 | .convert s _ _ => (match P.underlying s with | some (.int _) => .pure | _ => .other)
 | _ => .other
def calmOk (ρ : Operand → Value) (o : Oper) : Bool :=
 match o.op with
 | .nilCheck x => (match ρ x with | .func .. => false | _ => true)
 | .binOp _ _ x y _ => (match ρ x, ρ y with | .int .., .int .. => true | .string _, .string _ => true | .bool _, .bool _ => true | .agg a, .agg b => intsB a && intsB b | _, _ => false)
 | .convert _ _ x => (match ρ x with | .int .. => true | _ => false)
 | .call { callee := .builtin .len, args, .. } => (match ρ (args.getD 0 (.const undef)) with | .string _ | .slice .. => true | _ => false)
 | .call { callee := .builtin .min, args, .. } => (match ρ (args.getD 0 (.const undef)), ρ (args.getD 1 (.const undef)) with | .int .., .int .. => true | _, _ => false)
 | .call { callee := .builtin .max, args, .. } => (match ρ (args.getD 0 (.const undef)), ρ (args.getD 1 (.const undef)) with | .int .., .int .. => true | _, _ => false)
 | _ => true
def CalmV (P : Program) (e : Sem Next) : Prop := ∀ w n w', e.run P w = .ok n w' → ∃ v, n = .value v ∧ w' = w ∧ ∀ w2, e.run P w2 = .ok (.value v) w2
theorem zaw {P : Program} {s : Sem Value} (h : CalmAt P s) : CalmV P (do Pure.pure (Next.value (← s))) := fun w n w' hr => by
 obtain ⟨v, w1, h1, h2⟩ := zaC hr
 obtain ⟨rfl, k⟩ := h _ _ _ h1
 simp only [Sem.run_pure, Result.ok.injEq] at h2
 obtain ⟨rfl, rfl⟩ := h2
 exact ⟨v, rfl, rfl, fun w2 => by rw [Sem.run_bind, k w2]; rfl⟩
theorem zbM (P : Program) (v : Value) : CalmV P (Pure.pure (Next.value v)) := fun w n w' h => by
 simp only [Sem.run_pure, Result.ok.injEq] at h
 obtain ⟨rfl, rfl⟩ := h
 exact ⟨v, rfl, rfl, fun _ => rfl⟩
theorem zdb {P : Program} {e : Sem Next} (h : Never P e) : CalmV P e := fun w n w' hr => absurd hr (h w n w')
theorem zbD (P : Program) (op : BinOp) (t : TypeId) (x y : Operand) (a b : Value) (h : (match a, b with | .int .., .int .. => true | .string _, .string _ => true | .bool _, .bool _ => true | _, _ => false) = true) :
  CalmAt P (eqGuard op t x y a b) := by
 cases a <;> cases b <;> simp only [Bool.false_eq_true] at h <;> cases op <;> exact zag P _
theorem zdd {P : Program} {ρ : Operand → Value} {o : Oper} (hk : kindOf P o = .pure) (hc : calmOk ρ o = true) : CalmV P (execOp ρ o) := by
 obtain ⟨dst, op, type, pos, after, guard⟩ := o
 cases op <;> simp only [kindOf, reduceCtorEq] at hk <;> simp only [calmOk] at hc <;> simp only [execOp]
 case move x => exact zbM P _
 case assign x => exact zbM P _
 case pick c a b =>
  intro w n w' hr
  obtain ⟨v, w1, h1, h2⟩ := zaC hr
  obtain ⟨rfl, k⟩ := zcV P _ _ _ _ h1
  simp only [Sem.run_pure, Result.ok.injEq] at h2
  obtain ⟨rfl, rfl⟩ := h2
  exact ⟨_, rfl, rfl, fun w2 => by rw [Sem.run_bind, k w2]; rfl⟩
 case nilCheck x =>
  cases hx : ρ x <;> simp only [hx] at hc ⊢ <;> first
   | exact zbM P _
   | exact zdb (zas P _)
   | (rename_i q; cases q <;> first | exact zbM P _ | exact zdb (zas P _))
   | cases hc
 case binOp op xt x y yt =>
  cases hx : ρ x <;> cases hy : ρ y <;> simp only [hx, hy, Bool.false_eq_true, Bool.and_eq_true] at hc
  ·exact zaw (zac (zbD P _ _ _ _ _ _ rfl) fun _ => zfP P _ _ _ _)
  ·exact zaw (zac (zbD P _ _ _ _ _ _ rfl) fun _ => zgm P _ _ _ _ _ _)
  ·exact zaw (zac (zbD P _ _ _ _ _ _ rfl) fun _ => zdM P _ _ _ _)
  ·exact zaw (zac (zdB P _ _ _ _ _ _ hc.1 hc.2) fun _ => zgl P _ _ _ _ hc.1 hc.2)
 case unOp op t x => exact zaw (zhD P _ _)
 case build t ps => exact zaw (zhy P _ _)
 case convert s d x =>
  cases hx : ρ x <;> simp only [hx, Bool.false_eq_true] at hc
  exact zaw (zdf P _ _ _ _)
 case slice t x lo hi mx => exact zaw (zfx P _ _ _ _ _)
 case fieldAddr s x f =>
  split at hk
  ·rename_i h; exact zaw (zfY h _)
  ·cases hk
 case field t x f => exact zaw (zhr P _ _ _)
 case indexAddr t x i => exact zaw (zgb P _ _ _)
 case index t x i => exact zaw (zhI P _ _ _)
 case makeInterface t x => exact zaw (zcq P _ _)
 case makeFunc fn a b => exact zaw (zag P _)
 case extract t i => exact zaw (zfX P _ _)
 case call c =>
  obtain ⟨callee, args, ats⟩ := c
  cases callee with
  | value f => cases hk
  | invoke r m => cases hk
  | builtin b =>
   cases b <;> simp only [reduceCtorEq] at hk
   case len =>
    split at hk
    ·rename_i hs
     obtain ⟨x, rfl⟩ : ∃ x, args = #[x] := Array.size_eq_one_iff.1 hs
     show CalmV P (do Pure.pure (Next.value (← Builtin.len_ ats type ((#[x] : Array Operand).map ρ))))
     rw [show (#[x] : Array Operand).map ρ = #[ρ x] from by simp]
     exact zaw (zjZ P _ _ _ hc)
    ·cases hk
   case max =>
    split at hk
    ·rename_i hs
     obtain ⟨x, y, rfl⟩ : ∃ x y, args = #[x, y] := by
      obtain ⟨l⟩ := args
      match l, hs with
      | [x, y], _ => exact ⟨x, y, rfl⟩
     simp only [Array.getD_eq_getD_getElem?, List.getElem?_toArray, List.getElem?_cons_zero, List.getElem?_cons_succ, Option.getD_some] at hc
     cases hx : ρ x <;> cases hy : ρ y <;> simp only [hx, hy, Bool.false_eq_true] at hc
     rename_i k1 n1 k2 n2
     show CalmV P (do Pure.pure (Next.value (← Builtin.max_ ats type ((#[x, y] : Array Operand).map ρ))))
     rw [show (#[x, y] : Array Operand).map ρ = #[ρ x, ρ y] from by simp, hx, hy]
     exact zaw (zag P _)
    ·cases hk
   case min =>
    split at hk
    ·rename_i hs
     obtain ⟨x, y, rfl⟩ : ∃ x y, args = #[x, y] := by
      obtain ⟨l⟩ := args
      match l, hs with
      | [x, y], _ => exact ⟨x, y, rfl⟩
     simp only [Array.getD_eq_getD_getElem?, List.getElem?_toArray, List.getElem?_cons_zero, List.getElem?_cons_succ, Option.getD_some] at hc
     cases hx : ρ x <;> cases hy : ρ y <;> simp only [hx, hy, Bool.false_eq_true] at hc
     rename_i k1 n1 k2 n2
     show CalmV P (do Pure.pure (Next.value (← Builtin.min_ ats type ((#[x, y] : Array Operand).map ρ))))
     rw [show (#[x, y] : Array Operand).map ρ = #[ρ x, ρ y] from by simp, hx, hy]
     exact zaw (zag P _)
    ·cases hk
def Looks {α : Type} (P : Program) (e : Sem α) : Prop := ∀ w n w', e.run P w = .ok n w' → w' = w
theorem zet (P : Program) (a : Addr) : Looks P (load a) := fun w n w' h => by
 rw [run_load] at h
 split at h
 ·simp only [Result.ok.injEq] at h; exact h.2.symm
 ·split at h
  ·simp only [Result.ok.injEq] at h; exact h.2.symm
  ·simp at h
theorem zcl {α : Type} {P : Program} {e : Sem α} (h : CalmAt P e) : Looks P e := fun w n w' hr => (h w n w' hr).1
theorem zbn {α β : Type} {P : Program} {e : Sem α} {f : α → Sem β} (he : Looks P e) (hf : ∀ a, Looks P (f a)) : Looks P (e >>= f) := fun w n w' h => by
 obtain ⟨a, w1, h1, h2⟩ := zaC h
 obtain rfl := he _ _ _ h1
 exact hf _ _ _ _ h2
theorem zdn (P : Program) (a : Addr) : ∀ (n i : Nat) (acc : Array Value), Looks P (loadCellsFrom a i n acc)
 | 0, i, acc => zcl (zag P _)
 | n + 1, i, acc => zbn (zet P _) fun v => zdn P a n (i + 1) _
theorem zeH (P : Program) (t : TypeId) (a : Addr) : Looks P (loadVar t a) := by
 unfold loadVar
 refine zbn (zcl (zeh P t)) fun b => ?_
 split
 ·exact zbn (zcl (zaJ P t)) fun n => zbn (zdn P a _ _ _) fun _ => zcl (zag P _)
 ·exact zet P a
theorem zer {P : Program} {ρ : Operand → Value} {o : Oper} (hk : kindOf P o = .read) : ∀ w n w', (execOp ρ o).run P w = .ok n w' → w' = w ∧ ∃ v, n = .value v := by
 obtain ⟨dst, op, type, pos, after, guard⟩ := o
 intro w n w' h
 cases op <;> simp only [kindOf, reduceCtorEq] at hk
 case load t a =>
  simp only [execOp] at h
  obtain ⟨v, w1, h1, h2⟩ := zaC h
  have : Looks P (Instr.loadAt t (ρ a)) := zbn (zcl (zbv P _)) fun _ => zeH P t _
  obtain rfl := this _ _ _ h1
  simp only [Sem.run_pure, Result.ok.injEq] at h2
  exact ⟨h2.2.symm, v, h2.1.symm⟩
 case fieldAddr s x f => split at hk <;> cases hk
 case binOp b t x y yt => cases b <;> simp only [reduceCtorEq] at hk <;> (split at hk <;> cases hk)
 case convert s d x => split at hk <;> cases hk
 case call c =>
  obtain ⟨callee, args, ats⟩ := c
  cases callee with
  | value f => cases hk
  | invoke r m => cases hk
  | builtin b => cases b <;> simp only [reduceCtorEq] at hk <;> (split at hk <;> cases hk)
end Go.Pw
