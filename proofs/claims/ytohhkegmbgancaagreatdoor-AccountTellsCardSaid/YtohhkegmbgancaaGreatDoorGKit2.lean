/- Helper text of this claim: lemmas and contracts that the proved statement rests on; no conditions of its own. -/
import Derived.Test.YtohhkegmbgancaaGreatDoorKit1
namespace Go.Pw
open Go
set_option linter.unusedVariables false
section
variable {P : Program} {ops : Array Oper}
def Nope : Exit → Act → World → Prop := fun _ _ _ => False
theorem zeO : ¬ LetsOut Nope := fun ⟨_, _, h⟩ => h
def T1 (P : Program) (ops : Array Oper) (o : Oper) (K : Act → World → Prop) (a : Act) (w : World) : Prop :=
 if Region.wanted o (yielded ops a.tmps) = true then (kindOf P o = .pure → calmOk a.eval o = true) ∧ o.wp P a w K Nope
 else K (a.put o.dst undef) w
def wpT (P : Program) (ops : Array Oper) (Q : Act → World → Prop) : List Oper → Act → World → Prop
 | [], a, w => Q a w
 | o :: r, a, w => T1 P ops o (wpT P ops Q r) a w
def TI (P : Program) (ops : Array Oper) (i : Nat) (K : Act → World → Prop) (a : Act) (w : World) : Prop :=
 match ops[i]? with
 | none => K a w
 | some o => T1 P ops o K a w
def wpI (P : Program) (ops : Array Oper) (Q : Act → World → Prop) : List Nat → Act → World → Prop
 | [], a, w => Q a w
 | i :: r, a, w => TI P ops i (wpI P ops Q r) a w
theorem T1_mono {o : Oper} {K K' : Act → World → Prop} {a : Act} {w : World} (h : ∀ a w, K a w → K' a w) (hh : T1 P ops o K a w) : T1 P ops o K' a w := by
 unfold T1 at *
 split
 ·rename_i hw; rw [if_pos hw] at hh; exact ⟨hh.1, Oper.wp_mono h hh.2⟩
 ·rename_i hw; rw [if_neg hw] at hh; exact h _ _ hh
theorem TI_mono {i : Nat} {K K' : Act → World → Prop} {a : Act} {w : World} (h : ∀ a w, K a w → K' a w) (hh : TI P ops i K a w) : TI P ops i K' a w := by
 unfold TI at *
 split
 ·rename_i ho; simp only [ho] at hh; exact h _ _ hh
 ·rename_i o ho; simp only [ho] at hh; exact T1_mono h hh
theorem zdQ {o : Oper} {K : Act → World → Prop} {Q : Exit → Act → World → Prop} {a : Act} {w : World} (hh : o.wp P a w K Nope) : o.wp P a w K Q := by
 unfold Oper.wp at *
 generalize (execOp a.eval o).run P w = r at *
 cases r with
 | ok n w' =>
  cases n <;> simp only [Oper.upon] at hh ⊢ <;> first
   | exact hh
   | exact Calls.mono hh (fun e w'' he => by cases e <;> first | exact he | exact he.elim | exact (zeO he).elim)
 | halt x w' => cases x <;> simp only [Oper.upon] at hh ⊢ <;> exact hh.elim
theorem zdT {i : Nat} {K : Act → World → Prop} {Q : Exit → Act → World → Prop} {a : Act} {w : World} (hh : TI P ops i K a w) : wpOp P ops Q i K a w := by
 unfold TI at hh; unfold wpOp
 split
 ·rename_i ho; simp only [ho] at hh; exact hh
 ·rename_i o ho
  simp only [ho] at hh
  unfold T1 at hh
  split
  ·rename_i hw; rw [if_pos hw] at hh; exact .inl (zdQ hh.2)
  ·rename_i hw; rw [if_neg hw] at hh; exact hh
theorem zhc {ρ ρ' : Operand → Value} {o : Oper} (hk : kindOf P o = .pure) (h : ∀ x ∈ o.op.operands, ρ x = ρ' x) : calmOk ρ o = calmOk ρ' o := by
 obtain ⟨dst, op, type, pos, after, guard⟩ := o
 cases op <;> simp only [Op.operands] at h <;> simp only [calmOk]
 case nilCheck x => rw [h x (by simp)]
 case binOp op xt x y yt => rw [h x (by simp), h y (by simp)]
 case convert s d x => rw [h x (by simp)]
 case call c =>
  obtain ⟨callee, args, ats⟩ := c
  simp only [kindOf] at hk
  cases callee with
  | value f => rfl
  | invoke r m => rfl
  | builtin b =>
   cases b <;> simp only [reduceCtorEq] at hk <;> simp only []
   case len =>
    split at hk
    ·rename_i hs
     obtain ⟨x, rfl⟩ : ∃ x, args = #[x] := Array.size_eq_one_iff.1 hs
     have := h x (by simp [Call.operands])
     simp [this]
    ·cases hk
   case max =>
    split at hk
    ·rename_i hs
     obtain ⟨x, y, rfl⟩ : ∃ x y, args = #[x, y] := by
      obtain ⟨l⟩ := args
      match l, hs with
      | [x, y], _ => exact ⟨x, y, rfl⟩
     have h1 := h x (by simp [Call.operands])
     have h2 := h y (by simp [Call.operands])
     simp [h1, h2]
    ·cases hk
   case min =>
    split at hk
    ·rename_i hs
     obtain ⟨x, y, rfl⟩ : ∃ x y, args = #[x, y] := by
      obtain ⟨l⟩ := args
      match l, hs with
      | [x, y], _ => exact ⟨x, y, rfl⟩
     have h1 := h x (by simp [Call.operands])
     have h2 := h y (by simp [Call.operands])
     simp [h1, h2]
    ·cases hk
def NoSel (o : Oper) : Prop := ∀ cs b, o.op ≠ .select cs b
theorem zcg {o : Oper} (hk : kindOf P o = .pure) (a : Act) (dst : Option Tmp) (v : Value) (h : ∀ d, dst = some d → d ∉ o.looksAt ops) :
  calmOk (a.put dst v).eval o = calmOk a.eval o :=
 zhc hk fun x hx => Act.eval_put fun d hd hxd => h d hd (by
  subst hxd
  exact List.mem_append_left _ (List.mem_filterMap.2 ⟨.tmp d, by simpa using hx, rfl⟩))
def YieldsP (P : Program) (ops : Array Oper) (o : Oper) (v : Value) (a : Act) : Prop :=
 (Region.wanted o (yielded ops a.tmps) = true ∧ calmOk a.eval o = true ∧ ∀ w, (execOp a.eval o).run P w = .ok (.value v) w) ∨
 (Region.wanted o (yielded ops a.tmps) = false ∧ v = undef)
theorem YieldsP.put {o : Oper} {v : Value} {a : Act} (hk : kindOf P o = .pure) (hs : NoSel o) (hy : YieldsP P ops o v a) (dst : Option Tmp) (u : Value) (h : ∀ d, dst = some d → d ∉ o.looksAt ops) :
  YieldsP P ops o v (a.put dst u) := by
 unfold YieldsP at *
 rw [execOp_put o hs a dst u h, wanted_put o a dst u h, zcg hk a dst u h]
 exact hy
theorem YieldsP.unput {o : Oper} {v : Value} {a : Act} (hk : kindOf P o = .pure) (hs : NoSel o) (dst : Option Tmp) (u : Value) (h : ∀ d, dst = some d → d ∉ o.looksAt ops) (hy : YieldsP P ops o v (a.put dst u)) :
  YieldsP P ops o v a := by
 unfold YieldsP at *
 rw [execOp_put o hs a dst u h, wanted_put o a dst u h, zcg hk a dst u h] at hy
 exact hy
theorem YieldsP.defers {o : Oper} {v : Value} {a : Act} (ds : List Deferred) (hy : YieldsP P ops o v a) : YieldsP P ops o v { a with defers := ds } := hy
theorem YieldsP.uniq {o : Oper} {u v : Value} {a : Act} (h : YieldsP P ops o u a) (k : YieldsP P ops o v a) : u = v := by
 rcases h with ⟨h1, _, h3⟩ | ⟨h1, rfl⟩ <;> rcases k with ⟨k1, _, k3⟩ | ⟨k1, rfl⟩
 ·have := (h3 default).symm.trans (k3 default); simpa using this
 ·rw [h1] at k1; cases k1
 ·rw [h1] at k1; cases k1
 ·rfl
theorem YieldsP.t1 {o : Oper} {v : Value} {a : Act} {K : Act → World → Prop} {w : World} (hy : YieldsP P ops o v a) (h : K (a.put o.dst v) w) : T1 P ops o K a w := by
 unfold T1
 rcases hy with ⟨h1, h2, h3⟩ | ⟨h1, rfl⟩
 ·rw [if_pos h1]; refine ⟨fun _ => h2, ?_⟩; unfold Oper.wp; rw [h3 w]; exact h
 ·rw [if_neg (by simp [h1])]; exact h
theorem zdI {o : Oper} {a : Act} {K : Act → World → Prop} {w : World} (hk : kindOf P o = .pure) (h : T1 P ops o K a w) : ∃ v, YieldsP P ops o v a ∧ K (a.put o.dst v) w := by
 unfold T1 at h
 split at h
 ·rename_i hw
  obtain ⟨hc, h⟩ := h
  have hcv := zeG (ρ := a.eval) hk (hc hk)
  unfold Oper.wp at h
  cases hr : (execOp a.eval o).run P w with
  | ok n w' =>
   obtain ⟨v, rfl, rfl, k⟩ := hcv _ _ _ hr
   rw [hr] at h
   exact ⟨v, .inl ⟨hw, hc hk, k⟩, h⟩
  | halt x w' =>
   rw [hr] at h
   cases x <;> simp only [Oper.upon] at h <;> exact h.elim
 ·rename_i hw
  exact ⟨undef, .inr ⟨by simpa using hw, rfl⟩, h⟩
theorem zpy {x y : Oper} {K : Act → World → Prop} {a : Act} {w : World} (hap : x.apart ops y = true) (hsx : NoSel x) (hsy : NoSel y) (hk : kindOf P x = .pure)
  (h : T1 P ops x (T1 P ops y K) a w) : T1 P ops y (T1 P ops x K) a w := by
 obtain ⟨h1, h2, h3⟩ := Oper.apart_spec hap
 obtain ⟨v, hy, h⟩ := zdI hk h
 have fin : ∀ (a : Act) (u : Value) (w' : World), YieldsP P ops x v a → K ((a.put y.dst u).put x.dst v) w' → T1 P ops x K (a.put y.dst u) w' :=
  fun a u w' hy hK => (hy.put hk hsx y.dst u h3).t1 hK
 unfold T1 at h ⊢
 rw [wanted_put y a x.dst v h1] at h
 split
 ·rename_i hw
  rw [if_pos hw] at h
  obtain ⟨hc, h⟩ := h
  refine ⟨fun hky => by rw [← zcg (ops := ops) hky a x.dst v h1]; exact hc hky, ?_⟩
  unfold Oper.wp at *
  rw [execOp_put y hsy a x.dst v h1] at h
  generalize (execOp a.eval y).run P w = r at *
  cases r with
  | ok n w' =>
   cases n <;> simp only [Oper.upon] at h ⊢
   case value u => exact fin a u w' hy (by rw [← Act.put_comm a v u h2]; exact h)
   case skip => exact fin a _ w' hy (by rw [← Act.put_comm a v undef h2]; exact h)
   case defer d =>
    refine fin _ _ w' (hy.defers _) ?_
    rw [← Act.put_comm _ v undef h2, ← Act.put_defers]
    exact h
   case enter f args =>
    refine Calls.mono h fun e w'' he => ?_
    cases e with
    | returned u => exact fin a u w'' hy (by rw [← Act.put_comm a v u h2]; exact he)
    | panicked c => exact he
    | outgrown => exact he
   case row row args => exact Rows.mono h fun u w'' he => fin a u w'' hy (by rw [← Act.put_comm a v u h2]; exact he)
  | halt q w' => cases q <;> simp only [Oper.upon] at h ⊢ <;> exact h.elim
 ·rename_i hw
  rw [if_neg hw] at h
  exact fin a _ w hy (by rw [← Act.put_comm a v undef h2]; exact h)
theorem zpt {x y : Oper} {K : Act → World → Prop} {a : Act} {w : World} (hap : x.apart ops y = true) (hsx : NoSel x) (hsy : NoSel y) (hk : kindOf P y = .pure)
  (h : T1 P ops x (T1 P ops y K) a w) : T1 P ops y (T1 P ops x K) a w := by
 obtain ⟨h1, h2, h3⟩ := Oper.apart_spec hap
 have back : ∀ (a : Act) (u : Value) (w' : World), T1 P ops y K (a.put x.dst u) w' → ∃ v, YieldsP P ops y v a ∧ K ((a.put x.dst u).put y.dst v) w' := fun a u w' h => by
  obtain ⟨v, hy, hK⟩ := zdI hk h
  exact ⟨v, hy.unput hk hsy x.dst u h1, hK⟩
 have key : ∃ v, YieldsP P ops y v a := by
  unfold T1 at h
  split at h
  ·obtain ⟨_, h⟩ := h
   unfold Oper.wp at h
   generalize (execOp a.eval x).run P w = r at *
   cases r with
   | ok n w' =>
    cases n <;> simp only [Oper.upon] at h
    case value u => obtain ⟨v, hy, _⟩ := back a u w' h; exact ⟨v, hy⟩
    case skip => obtain ⟨v, hy, _⟩ := back a _ w' h; exact ⟨v, hy⟩
    case defer d => obtain ⟨v, hy, _⟩ := back _ _ w' h; exact ⟨v, hy⟩
    case enter f args =>
     obtain ⟨e, w'', fr, hR, _⟩ := h []
     cases e with
     | returned u => obtain ⟨v, hy, _⟩ := back a u w'' hR; exact ⟨v, hy⟩
     | panicked c => exact hR.elim
     | outgrown => exact (zeO hR).elim
    case row row args =>
     obtain ⟨u, w'', hR, _⟩ := h default []
     obtain ⟨v, hy, _⟩ := back a u w'' hR; exact ⟨v, hy⟩
   | halt q w' => cases q <;> simp only [Oper.upon] at h <;> exact h.elim
  ·obtain ⟨v, hy, _⟩ := back a _ w h; exact ⟨v, hy⟩
 obtain ⟨v, hy⟩ := key
 refine hy.t1 ?_
 have fwd : ∀ (a : Act) (u : Value) (w' : World), YieldsP P ops y v a → T1 P ops y K (a.put x.dst u) w' → K ((a.put y.dst v).put x.dst u) w' := fun a u w' hy h => by
  obtain ⟨v', hy', hK⟩ := back a u w' h
  obtain rfl := hy'.uniq hy
  rw [← Act.put_comm a u v' h2]; exact hK
 have hd : ∀ d, y.dst = some d → d ∉ x.looksAt ops := h3
 unfold T1 at h ⊢
 rw [wanted_put x a y.dst v hd]
 split
 ·rename_i hw
  rw [if_pos hw] at h
  obtain ⟨hc, h⟩ := h
  refine ⟨fun hkx => by rw [zcg (ops := ops) hkx a y.dst v hd]; exact hc hkx, ?_⟩
  unfold Oper.wp at *
  rw [execOp_put x hsx a y.dst v hd]
  generalize (execOp a.eval x).run P w = r at *
  cases r with
  | ok n w' =>
   cases n <;> simp only [Oper.upon] at h ⊢
   case value u => exact fwd a u w' hy h
   case skip => exact fwd a _ w' hy h
   case defer d =>
    have := fwd { a with defers := d :: a.defers } undef w' (hy.defers _) h
    rw [Act.put_defers]; exact this
   case enter f args =>
    refine Calls.mono h fun e w'' he => ?_
    cases e with
    | returned u => exact fwd a u w'' hy he
    | panicked c => exact he
    | outgrown => exact he
   case row row args => exact Rows.mono h fun u w'' he => fwd a u w'' hy he
  | halt q w' => cases q <;> simp only [Oper.upon] at h ⊢ <;> exact h.elim
 ·rename_i hw
  rw [if_neg hw] at h
  exact fwd a _ w hy h
def YieldsW (P : Program) (ops : Array Oper) (w : World) (o : Oper) (v : Value) (a : Act) : Prop :=
 (Region.wanted o (yielded ops a.tmps) = true ∧ (execOp a.eval o).run P w = .ok (.value v) w) ∨
 (Region.wanted o (yielded ops a.tmps) = false ∧ v = undef)
theorem zdq {o : Oper} {a : Act} {K : Act → World → Prop} {w : World} (hk : kindOf P o = .read) (h : T1 P ops o K a w) : ∃ v, YieldsW P ops w o v a ∧ K (a.put o.dst v) w := by
 unfold T1 at h
 split at h
 ·rename_i hw
  obtain ⟨hc, h⟩ := h
  unfold Oper.wp at h
  cases hr : (execOp a.eval o).run P w with
  | ok n w' =>
   obtain ⟨rfl, v, rfl⟩ := zfD (ρ := a.eval) hk _ _ _ hr
   rw [hr] at h
   exact ⟨v, .inl ⟨hw, hr⟩, h⟩
  | halt x w' =>
   rw [hr] at h
   cases x <;> simp only [Oper.upon] at h <;> exact h.elim
 ·rename_i hw
  exact ⟨undef, .inr ⟨by simpa using hw, rfl⟩, h⟩
theorem YieldsW.t1 {o : Oper} {v : Value} {a : Act} {K : Act → World → Prop} {w : World} (hk : kindOf P o = .read) (hy : YieldsW P ops w o v a) (h : K (a.put o.dst v) w) : T1 P ops o K a w := by
 unfold T1
 rcases hy with ⟨h1, h3⟩ | ⟨h1, rfl⟩
 ·rw [if_pos h1]; refine ⟨fun h => (by rw [hk] at h; cases h), ?_⟩; unfold Oper.wp; rw [h3]; exact h
 ·rw [if_neg (by simp [h1])]; exact h
theorem YieldsW.put_iff {o : Oper} {v : Value} {a : Act} {w : World} (hs : NoSel o) (dst : Option Tmp) (u : Value) (h : ∀ d, dst = some d → d ∉ o.looksAt ops) :
  YieldsW P ops w o v (a.put dst u) ↔ YieldsW P ops w o v a := by
 unfold YieldsW
 rw [execOp_put o hs a dst u h, wanted_put o a dst u h]
theorem znS {x y : Oper} {K : Act → World → Prop} {a : Act} {w : World} (hap : x.apart ops y = true) (hsx : NoSel x) (hsy : NoSel y) (hkx : kindOf P x = .read) (hky : kindOf P y = .read)
  (h : T1 P ops x (T1 P ops y K) a w) : T1 P ops y (T1 P ops x K) a w := by
 obtain ⟨h1, h2, h3⟩ := Oper.apart_spec hap
 obtain ⟨u, hx, h⟩ := zdq hkx h
 obtain ⟨v, hy, h⟩ := zdq hky h
 rw [YieldsW.put_iff hsy _ _ h1] at hy
 refine hy.t1 hky (((YieldsW.put_iff hsx _ _ h3).2 hx).t1 hkx ?_)
 rw [← Act.put_comm a u v h2]; exact h
def commB (P : Program) (ops : Array Oper) (x y : Oper) : Bool :=
 x.apart ops y && (kindOf P x == .pure || kindOf P y == .pure || (kindOf P x == .read && kindOf P y == .read))
theorem swap {x y : Oper} {K : Act → World → Prop} {a : Act} {w : World} (hsx : NoSel x) (hsy : NoSel y) (hc : commB P ops x y = true)
  (h : T1 P ops x (T1 P ops y K) a w) : T1 P ops y (T1 P ops x K) a w := by
 simp only [commB, Bool.and_eq_true, Bool.or_eq_true, beq_iff_eq] at hc
 obtain ⟨hap, (hk | hk) | ⟨hk, hk'⟩⟩ := hc
 ·exact zpy hap hsx hsy hk h
 ·exact zpt hap hsx hsy hk h
 ·exact znS hap hsx hsy hk hk' h
def selB (o : Oper) : Bool := match o.op with | .select .. => false | _ => true
theorem zeu {o : Oper} (h : selB o = true) : NoSel o := fun cs b he => by simp [selB, he] at h
def textB (P : Program) (ops : Array Oper) : Bool :=
 let m := Region.before ops
 (List.range ops.size).all fun i =>
  let o := ops.getD i default
  selB o && o.after.all (fun e => !Region.binds .any e || decide (e.on < i)) &&
  (List.range i).all fun j =>
   if (m.getD i 0).testBit j then o.after.any (fun e => Region.binds .any e && (e.on == j || (decide (j < e.on) && (m.getD e.on 0).testBit j)))
   else commB P ops (ops.getD j default) o
structure TextOk (P : Program) (ops : Array Oper) (m : Array Nat) : Prop where
 sel : ∀ (i : Nat) (o : Oper), ops[i]? = some o → NoSel o
 back : ∀ (i : Nat) (o : Oper), ops[i]? = some o → ∀ e ∈ o.after, Region.binds .any e = true → e.on < i
 dep : ∀ (i : Nat) (o : Oper), ops[i]? = some o → ∀ j, j < i → (m.getD i 0).testBit j = true → ∃ e ∈ o.after, Region.binds .any e = true ∧ (e.on = j ∨ (j < e.on ∧ (m.getD e.on 0).testBit j = true))
 comm : ∀ (i : Nat) (o : Oper), ops[i]? = some o → ∀ (j : Nat) (p : Oper), ops[j]? = some p → j < i → (m.getD i 0).testBit j = false → commB P ops p o = true
theorem zmh (h : textB P ops = true) : TextOk P ops (Region.before ops) := by
 unfold textB at h
 simp only [List.all_eq_true, List.mem_range, Bool.and_eq_true] at h
 have lt : ∀ (i : Nat) (o : Oper), ops[i]? = some o → i < ops.size ∧ ops.getD i default = o := fun i o ho => by
  obtain ⟨hi, he⟩ := Array.getElem?_eq_some_iff.1 ho
  exact ⟨hi, by simp [hi, he]⟩
 refine ⟨fun i o ho => ?_, fun i o ho e he hb => ?_, fun i o ho j hj hm => ?_, fun i o ho j p hp hj hm => ?_⟩
 ·obtain ⟨hi, he⟩ := lt i o ho
  have := (h i hi).1.1
  rw [he] at this; exact zeu this
 ·obtain ⟨hi, he'⟩ := lt i o ho
  have := (h i hi).1.2
  rw [he'] at this
  have := (Array.all_eq_true_iff_forall_mem.1 this) e he
  simpa [hb] using this
 ·obtain ⟨hi, he'⟩ := lt i o ho
  have := (h i hi).2 j hj
  rw [he', if_pos hm] at this
  obtain ⟨e, he, hb⟩ := Array.any_eq_true'.1 this
  simp only [Bool.and_eq_true, Bool.or_eq_true, beq_iff_eq, decide_eq_true_eq] at hb
  exact ⟨e, he, hb.1, hb.2⟩
 ·obtain ⟨hi, he'⟩ := lt i o ho
  obtain ⟨_, hp'⟩ := lt j p hp
  have := (h i hi).2 j hj
  rw [he', hp', hm] at this
  simpa using this
def Closed (ops : Array Oper) (listed : Array Bool) : Prop :=
 ∀ (i : Nat) (o : Oper), ops[i]? = some o → listed.getD i false = true → ∀ e ∈ o.after, Region.binds .any e = true → listed.getD e.on false = true
theorem zkb {m : Array Nat} {listed : Array Bool} (ok : TextOk P ops m) (hcl : Closed ops listed) : ∀ (n i : Nat) (o : Oper), i ≤ n → ops[i]? = some o →
  (∀ e ∈ o.after, Region.binds .any e = true → listed.getD e.on false = true) → ∀ j, j < i → (m.getD i 0).testBit j = true → listed.getD j false = true := by
 intro n
 induction n with
 | zero => intro i o hi _ _ j hj; omega
 | succ n ih =>
  intro i o hi ho hdeps j hj hm
  obtain ⟨e, he, hb, hor⟩ := ok.dep i o ho j hj hm
  have hlt := ok.back i o ho e he hb
  have hl := hdeps e he hb
  rcases hor with rfl | hor
  ·exact hl
  ·obtain ⟨o', ho'⟩ : ∃ o', ops[e.on]? = some o' := by
    obtain ⟨hi', _⟩ := Array.getElem?_eq_some_iff.1 ho
    exact ⟨ops[e.on], Array.getElem?_eq_getElem (by omega)⟩
   exact ih e.on o' (by omega) ho' (hcl e.on o' ho' hl) j hor.1 hor.2
theorem bubble {Q : Act → World → Prop} {m : Array Nat} (ok : TextOk P ops m) {i : Nat} {o : Oper} (ho : ops[i]? = some o) : ∀ (pre post : List Nat),
  (∀ j ∈ pre, j < i ∧ (m.getD i 0).testBit j = false) → ∀ (a : Act) (w : World), wpI P ops Q (pre ++ i :: post) a w → TI P ops i (wpI P ops Q (pre ++ post)) a w
 | [], post, _, a, w, h => h
 | j :: pre, post, hp, a, w, h => by
  have ih := bubble (Q := Q) ok ho pre post (fun k hk => hp k (List.mem_cons_of_mem _ hk))
  have h' : TI P ops j (TI P ops i (wpI P ops Q (pre ++ post))) a w := TI_mono (fun a w => ih a w) h
  show TI P ops i (TI P ops j (wpI P ops Q (pre ++ post))) a w
  obtain ⟨hj, hm⟩ := hp j List.mem_cons_self
  unfold TI at h' ⊢
  simp only [ho] at h' ⊢
  cases hpj : ops[j]? with
  | none => simp only [hpj] at h' ⊢; exact h'
  | some p =>
   simp only [hpj] at h' ⊢
   exact swap (ok.sel j p hpj) (ok.sel i o ho) (ok.comm i o ho j p hpj hj hm) h'
theorem anyOrder {Q : Exit → Act → World → Prop} {m : Array Nat} (ok : TextOk P ops m) : ∀ (fuel : Nat) (L : List Nat) (listed : Array Bool) (a : Act) (w : World),
  L.length = fuel → listed.size = ops.size → Closed ops listed → L.Pairwise (· < ·) → (∀ j, j ∈ L ↔ j < ops.size ∧ listed.getD j false = false) →
  wpI P ops (Q .normal) L a w → wpAny P .any ops Q fuel listed a w := by
 intro fuel
 induction fuel with
 | zero =>
  intro L listed a w hlen hsz hcl hpw hmem h
  obtain rfl : L = [] := List.eq_nil_of_length_eq_zero hlen
  refine ⟨?_, h⟩
  refine List.eq_nil_iff_forall_not_mem.2 fun i hi => ?_
  obtain ⟨h0, o, ho, _⟩ := mem_ready.1 hi
  have hlt : i < ops.size := (Array.getElem?_eq_some_iff.1 ho).1
  have h0' : listed.getD i false = false := by
   have : i < listed.size := by omega
   simp [this] at h0 ⊢; exact h0
  have := (hmem i).2 ⟨hlt, h0'⟩
  cases this
 | succ fuel ih =>
  intro L listed a w hlen hsz hcl hpw hmem h
  refine ⟨fun hr => ?_, fun i hi => ?_⟩
  ·cases L with
   | nil => cases hlen
   | cons i L =>
    exfalso
    obtain ⟨hlt, h0⟩ := (hmem i).1 List.mem_cons_self
    have hrdy : i ∈ Region.ready .any ops listed := by
     refine mem_ready.2 ⟨?_, ops[i], Array.getElem?_eq_getElem hlt, fun e he hb => ?_⟩
     ·have : i < listed.size := by omega
      simp [this] at h0 ⊢; exact h0
     ·have hlt' := ok.back i _ (Array.getElem?_eq_getElem hlt) e he hb
      cases hl : listed.getD e.on false with
      | true => rfl
      | false =>
       have hin := (hmem e.on).2 ⟨by omega, hl⟩
       rcases List.mem_cons.1 hin with heq | hin
       ·omega
       ·have := (List.pairwise_cons.1 hpw).1 _ hin; omega
    rw [hr] at hrdy; cases hrdy
  ·obtain ⟨h0, o, ho, hdeps⟩ := mem_ready.1 hi
   have hlt : i < ops.size := (Array.getElem?_eq_some_iff.1 ho).1
   have hil : i < listed.size := by omega
   have h0' : listed.getD i false = false := by simp [hil] at h0 ⊢; exact h0
   have hin := (hmem i).2 ⟨hlt, h0'⟩
   obtain ⟨pre, post, rfl⟩ := List.append_of_mem hin
   have hpre : ∀ j ∈ pre, j < i := fun j hj => (List.pairwise_append.1 hpw).2.2 j hj i List.mem_cons_self
   refine zdT (TI_mono (fun a w h => ?_) (bubble ok ho pre post (fun j hj => ⟨hpre j hj, ?_⟩) a w h))
   ·refine ih (pre ++ post) _ a w (by simp at hlen ⊢; omega) (by simp [hsz]) ?_ ?_ ?_ h
    ·intro k p hk hl e he hb
     by_cases hki : k = i
     ·subst hki
      obtain rfl : p = o := Option.some.inj (hk.symm.trans ho)
      exact getD_set_true (hdeps e he hb)
     ·rw [getD_set_ne false (fun h => hki h.symm)] at hl
      exact getD_set_true (hcl k p hk hl e he hb)
    ·exact hpw.sublist (List.Sublist.append_left (List.sublist_cons_self _ _) _)
    ·intro j
     have hne : j ∈ pre ++ post → j ≠ i := fun hj e => by
      subst e
      rcases List.mem_append.1 hj with hj | hj
      ·have := hpre _ hj; omega
      ·have := (List.pairwise_cons.1 (List.pairwise_append.1 hpw).2.1).1 _ hj; omega
     constructor
     ·intro hj
      have hj' : j ∈ pre ++ i :: post := by
       rcases List.mem_append.1 hj with hj | hj
       ·exact List.mem_append_left _ hj
       ·exact List.mem_append_right _ (List.mem_cons_of_mem _ hj)
      obtain ⟨k1, k2⟩ := (hmem j).1 hj'
      exact ⟨k1, by rw [getD_set_ne false (fun h => hne hj h.symm)]; exact k2⟩
     ·rintro ⟨k1, k2⟩
      have hji : j ≠ i := fun e => by subst e; simp [hil] at k2
      rw [getD_set_ne false (fun h => hji h.symm)] at k2
      have := (hmem j).2 ⟨k1, k2⟩
      rcases List.mem_append.1 this with hj | hj
      ·exact List.mem_append_left _ hj
      ·rcases List.mem_cons.1 hj with rfl | hj
       ·exact absurd rfl hji
       ·exact List.mem_append_right _ hj
   ·cases hm : (m.getD i 0).testBit j with
    | false => rfl
    | true =>
     have hl := zkb ok hcl i i o (Nat.le_refl _) ho hdeps j (hpre j hj) hm
     have := ((hmem j).1 (List.mem_append_left _ hj)).2
     rw [hl] at this; cases this
theorem zfH {Q : Act → World → Prop} (l : List Oper) : ∀ k, (∀ j, l[j]? = ops[k + j]?) → wpI P ops Q (List.range' k l.length) = wpT P ops Q l := by
 induction l with
 | nil => intro k _; rfl
 | cons o l ih =>
  intro k h
  have h0 : ops[k]? = some o := by simpa using (h 0).symm
  have ih' := ih (k + 1) (fun j => by have := h (j + 1); simpa [Nat.add_assoc, Nat.add_comm 1 j] using this)
  funext a w
  simp only [List.length_cons, List.range'_succ, wpI, TI, h0, wpT, ih']
theorem zfv {Q : Exit → Act → World → Prop} {id : Nat} {l : List Oper} {a : Act} {w : World} (hm : P.follows .mixedOrders = true) (hB : textB P l.toArray = true)
  (h : wpT P l.toArray (fun a w => Q .normal a w) l a w.drew) : (Code.region id l.toArray true).wp P Q a w := by
 refine wp_region_any hm ?_
 have ok := zmh hB
 have hz : ∀ j, (Array.replicate l.toArray.size false).getD j false = false := fun j => by
  simp only [Array.getD_eq_getD_getElem?, Array.getElem?_replicate]; split <;> rfl
 refine anyOrder ok _ (List.range l.toArray.size) _ a _ (by simp) (by simp) ?_ ?_ ?_ ?_
 ·intro i o _ hl; rw [hz] at hl; cases hl
 ·exact List.pairwise_lt_range
 ·intro j; rw [hz]; simp
 ·have := zfH (P := P) (ops := l.toArray) (Q := fun a w => Q .normal a w) l 0 (by simp)
  rw [show List.range l.toArray.size = List.range' 0 l.length from by simp [List.range_eq_range']]
  rw [this]; exact h
end
end Go.Pw
namespace Go.Vc
open Go Go.Pw
set_option linter.unusedVariables false
abbrev Fr := Nat → Value
def frArr (n : Nat) (f : Fr) : Array Value := ((List.range n).map f).toArray
def upd (f : Fr) (i : Nat) (v : Value) : Fr := fun j => match Nat.beq j i with | true => v | false => f j
def Ok (n : Nat) (f : Fr) : Prop := ∀ j, n ≤ j → f j = undef
def ev (f : Fr) : Operand → Value
 | .tmp t => f t
 | .const v => v
 | .global g => .pointer (some ⟨g, 0, none⟩)
 | .func g => .func (.func g) #[] #[]
def act (n : Nat) (f : Fr) : Act := ⟨frArr n f, []⟩
theorem zhg {n : Nat} {f : Fr} {i : Nat} (h : i < n) : (frArr n f)[i]? = some (f i) := by simp [frArr, h]
theorem zfE {n : Nat} {f : Fr} {i : Nat} (h : n ≤ i) : (frArr n f)[i]? = none := by simp [frArr, h]
theorem zdX {n : Nat} {f : Fr} (hf : Ok n f) (i : Nat) : (frArr n f).getD i undef = f i := by
 rw [Array.getD_eq_getD_getElem?]
 by_cases h : i < n
 ·rw [zhg h]; rfl
 ·rw [zfE (by omega), hf i (by omega)]; rfl
theorem zcP {n : Nat} {f : Fr} (hf : Ok n f) : (act n f).eval = ev f := by
 funext o
 cases o with
 | tmp t => exact zdX hf t
 | _ => rfl
theorem ziH (f : Fr) (i : Nat) (v : Value) : upd f i v i = v := by
 have : Nat.beq i i = true := Nat.beq_refl i
 unfold upd; rw [this]
theorem zmi (f : Fr) {i j : Nat} (v : Value) (h : j ≠ i) : upd f i v j = f j := by
 have : Nat.beq j i = false := by
  cases hb : Nat.beq j i
  ·rfl
  ·exact absurd (Nat.eq_of_beq_eq_true hb) h
 unfold upd; rw [this]
theorem zlm {n : Nat} {f : Fr} {i : Nat} (h : i < n) (v : Value) : (frArr n f).setIfInBounds i v = frArr n (upd f i v) := by
 apply Array.ext
 ·simp [frArr]
 ·intro j h1 h2
  simp only [frArr, List.setIfInBounds_toArray, List.getElem_toArray, List.getElem_set, List.getElem_map, List.getElem_range]
  split
  ·rename_i e; subst e; exact (ziH _ _ _).symm
  ·rename_i e; exact (zmi _ _ (fun h => e h.symm)).symm
theorem zpj {n : Nat} {f : Fr} {i : Nat} (hf : Ok n f) (h : i < n) (v : Value) : Ok n (upd f i v) := fun j hj => by
 rw [zmi _ _ (by omega)]; exact hf j hj
def put' (n : Nat) (f : Fr) (d : Option Tmp) (v : Value) : Fr := match d with | none => f | some i => upd f i v
def putOk (n : Nat) (d : Option Tmp) : Bool := match d with | none => true | some i => Nat.ble (i + 1) n
theorem zcR {n : Nat} {f : Fr} {d : Option Tmp} (v : Value) (hf : Ok n f) (h : putOk n d = true) : Ok n (put' n f d v) ∧ (act n f).put d v = act n (put' n f d v) := by
 cases d with
 | none => exact ⟨hf, rfl⟩
 | some i =>
  have hi : i < n := Nat.le_of_ble_eq_true h
  exact ⟨zpj hf hi v, by simp only [Act.put, act, put']; rw [zlm hi]⟩
structure Num (k : IntKind) (e : Int) (K : Int → Prop) : Prop where
 h : K (k.wrap e)
structure Br (b : Bool) (p q : Prop) : Prop where
 t : b = true → p
 f : b = false → q
structure Load (P : Program) (t : TypeId) (a : Addr) (w : World) (K : Value → Prop) : Prop where
 h : ∃ v, (loadVar t a).run P w = .ok v w ∧ K v
structure Store (P : Program) (t : TypeId) (a : Addr) (v : Value) (w : World) (K : World → Prop) : Prop where
 h : ∃ w', (storeVar t a v).run P w = .ok () w' ∧ K w'
structure CallS (P : Program) (g : FuncId) (args : List Value) (w : World) (K : Value → World → Prop) : Prop where
 h : ((callFunc g args.toArray).run P w = .ok (.enter g args.toArray) w ∧ Calls P g args.toArray w fun e w' => ∃ v, e = .returned v ∧ K v w') ∨ ∃ v w', (callFunc g args.toArray).run P w = .ok (.value v) w' ∧ K v w'
structure Idx (i : Int) (n : Nat) (K : Nat → Prop) : Prop where
 h : ∃ j : Nat, i = j ∧ j < n ∧ K j
structure Cut (lo hi : Option Int) (n len : Nat) (K : Nat → Nat → Prop) : Prop where
 h : ∃ l h : Nat, (lo = some (l : Int) ∨ lo = none ∧ l = 0) ∧ (hi = some (h : Int) ∨ hi = none ∧ h = len) ∧ l ≤ h ∧ h ≤ n ∧ K l h
structure RunV (P : Program) (s : Sem Value) (w : World) (K : Value → World → Prop) : Prop where
 h : ∃ v w', s.run P w = .ok v w' ∧ K v w'
structure RunU (P : Program) (s : Sem Unit) (w : World) (K : World → Prop) : Prop where
 h : ∃ w', s.run P w = .ok () w' ∧ K w'
structure RunN (P : Program) (s : Sem Next) (w : World) (K : Value → World → Prop) : Prop where
 h : ∃ v w', s.run P w = .ok (.value v) w' ∧ K v w'
structure Ret (p : Prop) : Prop where
 h : p
inductive Need where
 | num (k : IntKind) (e : Int) (w : World)
 | br (b : Bool) (x y : Value) (w : World)
 | load (t : TypeId) (a : Addr) (w : World)
 | store (t : TypeId) (a : Addr) (v : Value) (w : World)
 | call (g : FuncId) (args : List Value) (w : World)
 | idx (i : Int) (n : Nat) (mk : Nat → Value) (w : World)
 | cut (lo hi : Option Int) (n len : Nat) (mk : Nat → Nat → Value) (w : World)
 | runV (s : Sem Value) (w : World)
 | runU (s : Sem Unit) (w : World)
 | runN (s : Sem Next) (w : World)
def Need.holds (P : Program) (K : Value → World → Prop) : Need → Prop
 | .num k e w => Num k e fun n => K (.int k n) w
 | .br b x y w => Br b (K x w) (K y w)
 | .load t a w => Load P t a w fun v => K v w
 | .store t a v w => Store P t a v w fun w' => K undef w'
 | .call g args w => CallS P g args w K
 | .idx i n mk w => Idx i n fun j => K (mk j) w
 | .cut lo hi n len mk w => Cut lo hi n len fun l h => K (mk l h) w
 | .runV s w => RunV P s w K
 | .runU s w => RunU P s w fun w' => K undef w'
 | .runN s w => RunN P s w K
inductive Res where
 | val (v : Value) (w : World)
 | need (nd : Need)
 | bad
def Res.holds (P : Program) (K : Value → World → Prop) : Res → Prop
 | .val v w => K v w
 | .need nd => nd.holds P K
 | .bad => False
def force {α : Type} (v : Value) (K : Value → α) : α :=
 match v with
 | .bool b => K (.bool b) | .int k n => K (.int k n) | .float k b => K (.float k b) | .complex k a b => K (.complex k a b) | .string s => K (.string s)
 | .pointer none => K (.pointer none) | .pointer (some ⟨b, o, s⟩) => K (.pointer (some ⟨b, o, s⟩))
 | .slice a l c => K (.slice a l c)
 | .map r => K (.map r) | .chan r => K (.chan r) | .func a b c => K (.func a b c) | .nilFunc => K .nilFunc
 | .iface t v => K (.iface t v) | .nilIface => K .nilIface | .agg cs => K (.agg cs) | .tuple vs => K (.tuple vs)
theorem zaX {α : Type} (v : Value) (K : Value → α) : force v K = K v := by
 unfold force; split <;> rfl
def forceL {α : Type} (f : Fr) : List Operand → (List Value → α) → α
 | [], K => K []
 | o :: r, K => force (ev f o) fun v => forceL f r fun vs => K (v :: vs)
theorem zbz {α : Type} (f : Fr) : ∀ (l : List Operand) (K : List Value → α), forceL f l K = K (l.map (ev f))
 | [], K => rfl
 | o :: r, K => by simp only [forceL, zaX, zbz f r, List.map_cons]
def forceP {α : Type} (f : Fr) : List (Nat × Operand) → (List (Nat × Value) → α) → α
 | [], K => K []
 | (i, o) :: r, K => force (ev f o) fun v => forceP f r fun vs => K ((i, v) :: vs)
theorem zeI {α : Type} (f : Fr) : ∀ (l : List (Nat × Operand)) (K : List (Nat × Value) → α), forceP f l K = K (l.map fun p => (p.1, ev f p.2))
 | [], K => rfl
 | (i, o) :: r, K => by simp only [forceP, zaX, zeI f r, List.map_cons]
def intO (f : Fr) : Option Operand → (Option Int → Res) → Res
 | none, K => K none
 | some o, K => (match ev f o with | .int _ i => K (some i) | _ => .bad)
def gen (P : Program) (f : Fr) (w : World) (o : Oper) : Res :=
 match (execOp (ev f) o).run P w with
 | .ok (.value v) w' => .val v w'
 | .ok .skip w' => .val undef w'
 | _ => .bad
def elemSize (P : Program) (t : TypeId) : Option Nat :=
 match P.underlying t with
 | some (.slice e) => (match P.info? e with | some i => some i.size | none => none)
 | some (.array _ e) => (match P.info? e with | some i => some i.size | none => none)
 | _ => none
def isSlice (P : Program) (t : TypeId) : Bool := match P.underlying t with | some (.slice _) => true | _ => false
def arrLen (P : Program) (t : TypeId) : Option Nat := match P.underlying t with | some (.array n _) => some n | _ => none
def isStr (P : Program) (t : TypeId) : Bool := match P.underlying t with | some .string => true | _ => false
def pickN {α : Type} (n : Nat) (K : Nat → α) : List Nat → α
 | [] => K n
 | a :: r => (match Nat.beq n a with | true => K a | false => pickN n K r)
def forceN {α : Type} (n : Nat) (K : Nat → α) : α := pickN n K [0, 1, 2, 3, 4, 5, 6, 7, 8, 9, 10, 11, 12, 13, 14, 15, 16, 17, 18, 19, 20, 21, 22, 23, 24, 25, 26, 27, 28, 29, 30, 31, 32]
theorem ziU {α : Type} (n : Nat) (K : Nat → α) : ∀ l, pickN n K l = K n
 | [] => rfl
 | a :: r => by
  unfold pickN
  split
  ·rename_i h; rw [Nat.eq_of_beq_eq_true h]
  ·exact ziU n K r
theorem zdv {α : Type} (n : Nat) (K : Nat → α) : forceN n K = K n := ziU n K _
def fieldOff (P : Program) (s fl : Nat) : Option Nat :=
 match P.underlying s with
 | some (.struct fs) => (match fs[fl]? with
   | some fd => (match P.info? fd.type with
     | some i => (match Nat.beq i.size 0 with | false => some fd.offset | true => none)
     | none => none)
   | none => none)
 | _ => none
def byteAt (s : ByteArray) (i : Nat) : UInt8 := s.data.toList.getD i 0
def callV (f : Fr) (w : World) (c : Go.Call) : Value → Res
 | .func (.func g) first cap => (match first.toList with
   | [] => forceL f c.args.toList fun vs => (match cap.toList with | [] => .need (.call g vs w) | cap => .need (.call g (vs ++ cap) w))
   | _ => .bad)
 | _ => .bad
def opRes (P : Program) (f : Fr) (w : World) (o : Oper) : Res :=
 match o.op with
 | .load t a => (match ev f a with | .pointer (some ⟨b, i, s⟩) => .need (.load t ⟨b, i, s⟩ w) | _ => .bad)
 | .store t a x => (match ev f a with | .pointer (some ⟨b, i, s⟩) => force (ev f x) fun v => .need (.store t ⟨b, i, s⟩ v w) | _ => .bad)
 | .box e x => force (ev f x) fun v => (match v with
   | .agg cs => .val (.pointer (some ⟨w.heap.size, 0, none⟩)) (w.alloc (.cells cs e))
   | v => .val (.pointer (some ⟨w.heap.size, 0, none⟩)) (w.alloc (.cells #[v] e)))
 | .alloc e => (match P.info? e with
   | some i => (match i.zero with
     | some (.agg cs) => .val (.pointer (some ⟨w.heap.size, 0, none⟩)) (w.alloc (.cells cs e))
     | some v => force v fun v => .val (.pointer (some ⟨w.heap.size, 0, none⟩)) (w.alloc (.cells #[v] e))
     | none => .bad)
   | none => .bad)
 | .binOp .add t x y yt => (match ev f x, ev f y with
   | .int .i64 a, .int .i64 c => .need (.num .i64 (a + c) w)
   | .int .i32 a, .int .i32 c => .need (.num .i32 (a + c) w)
   | .int .u8 a, .int .u8 c => .need (.num .u8 (a + c) w)
   | .string a, .string c => .need (.runV (Op.stringOp .add a c) w)
   | _, _ => gen P f w o)
 | .binOp .sub t x y yt => (match ev f x, ev f y with
   | .int .i64 a, .int .i64 c => .need (.num .i64 (a - c) w)
   | .int .i32 a, .int .i32 c => .need (.num .i32 (a - c) w)
   | .int .u8 a, .int .u8 c => .need (.num .u8 (a - c) w)
   | _, _ => gen P f w o)
 | .binOp .mul t x y yt => (match ev f x, ev f y with
   | .int .i64 a, .int .i64 c => .need (.num .i64 (a * c) w)
   | .int .i32 a, .int .i32 c => .need (.num .i32 (a * c) w)
   | _, _ => gen P f w o)
 | .binOp .eql t x y yt => (match ev f x, ev f y with
   | .string a, .string c => .val (.bool (decide (a = c))) w
   | .agg xs, .agg ys => .need (.runV (do eqGuard .eql t x y (.agg xs) (.agg ys); binOp .eql t (.agg xs) (.agg ys)) w)
   | _, _ => gen P f w o)
 | .binOp .neq t x y yt => (match ev f x, ev f y with
   | .string a, .string c => .val (.bool (!decide (a = c))) w
   | .agg xs, .agg ys => .need (.runV (do eqGuard .neq t x y (.agg xs) (.agg ys); binOp .neq t (.agg xs) (.agg ys)) w)
   | _, _ => gen P f w o)
 | .fieldAddr s x fl => (match ev f x with
   | .pointer (some ⟨b, off, none⟩) => (match fieldOff P s fl with
     | some d => forceN d fun d => (match Nat.beq d 0 with | true => .val (.pointer (some ⟨b, off, none⟩)) w | false => .val (.pointer (some ⟨b, off + d, none⟩)) w)
     | none => gen P f w o)
   | _ => gen P f w o)
 | .indexAddr t x i => (match ev f x, ev f i with
   | .slice (some ⟨b, off, none⟩) len cap, .int _ i => (match isSlice P t, elemSize P t with
     | true, some sz => forceN sz fun sz => (match Nat.beq sz 1 with
       | true => .need (.idx i len (fun j => .pointer (some ⟨b, off + j, none⟩)) w)
       | false => .need (.idx i len (fun j => .pointer (some ⟨b, off + j * sz, none⟩)) w))
     | _, _ => .bad)
   | .pointer (some ⟨b, off, none⟩), .int _ i => (match arrLen P t, elemSize P t with
     | some n, some sz => forceN n fun n => forceN sz fun sz => (match Nat.beq sz 1 with
       | true => .need (.idx i n (fun j => .pointer (some ⟨b, off + j, none⟩)) w)
       | false => .need (.idx i n (fun j => .pointer (some ⟨b, off + j * sz, none⟩)) w))
     | _, _ => .bad)
   | _, _ => .bad)
 | .index t x i => (match ev f x, ev f i with
   | .string s, .int _ i => (match isStr P t with | true => .need (.idx i s.size (fun j => .int .u8 (byteAt s j).toNat) w) | false => .bad)
   | _, _ => .need (.runV (Instr.index t (ev f x) (ev f i)) w))
 | .slice t x lo hi none => (match ev f x with
   | .string s => (match isStr P t with
     | true => intO f lo fun lo => intO f hi fun hi => .need (.cut lo hi s.size s.size (fun l h => .string (s.extract l h)) w)
     | false => .bad)
   | .slice (some ⟨b, off, none⟩) len cap => (match isSlice P t, elemSize P t with
     | true, some sz => intO f lo fun lo => intO f hi fun hi => forceN sz fun sz =>
       .need (.cut lo hi cap len (fun l h => .slice (some ⟨b, if l = cap then off else off + l * sz, none⟩) (h - l) (cap - l)) w)
     | _, _ => .bad)
   | x => .need (.runV (Instr.sliceAt t x (lo.map (ev f)) (hi.map (ev f)) none) w))
 | .slice t x lo hi (some m) => .need (.runV (Instr.sliceAt t (ev f x) (lo.map (ev f)) (hi.map (ev f)) (some (ev f m))) w)
 | .call c => (match c.callee with
   | .builtin .len => (match c.argTypes.toList with
     | [t] => (match isStr P t, isSlice P t with
       | true, _ => forceL f c.args.toList fun vs => (match vs with | [.string s] => .val (.int .i64 s.size) w | _ => .bad)
       | false, true => forceL f c.args.toList fun vs => (match vs with | [.slice _ n _] => .val (.int .i64 n) w | _ => .bad)
       | _, _ => forceL f c.args.toList fun vs => .need (.runN (builtin .len c.argTypes o.type #[false] vs.toArray) w))
     | _ => .bad)
   | .builtin .min => forceL f c.args.toList fun vs => (match vs with | [.int k a, .int _ b] => .val (.int k (min a b)) w | _ => .bad)
   | .builtin .max => forceL f c.args.toList fun vs => (match vs with | [.int k a, .int _ b] => .val (.int k (max a b)) w | _ => .bad)
   | .builtin b => forceL f c.args.toList fun vs => .need (.runN (builtin b c.argTypes o.type (c.args.map fun | .const _ => true | _ => false) vs.toArray) w)
   | .value fo => callV f w c (ev f fo)
   | .invoke .. => .bad)
 | .pick c a b => (match ev f c with | .bool t => force (ev f a) fun x => force (ev f b) fun y => .need (.br t x y w) | _ => .bad)
 | .build t ps => forceP f ps.toList fun l => .need (.runV (Instr.build t l.toArray) w)
 | .next it s => .need (.runV (Instr.next (ev f it) s o.type) w)
 | .range t x => .need (.runV (Instr.range t (ev f x)) w)
 | .entry it => .need (.runV (Instr.entry (ev f it)) w)
 | .makeSlice t l c => force (ev f l) fun l => force (ev f c) fun c => .need (.runV (Instr.makeSlice t l c) w)
 | .buildSlice t n ps => forceP f ps.toList fun l => .need (.runV (Instr.buildSlice t n l.toArray) w)
 | .makeMap t r => .need (.runV (Instr.makeMap t (r.map (ev f))) w)
 | .lookup t x i ok => force (ev f x) fun x => force (ev f i) fun i => .need (.runV (Instr.lookup t x i ok) w)
 | .mapUpdate t m k x => force (ev f m) fun m => force (ev f k) fun k => force (ev f x) fun x => .need (.runU (Instr.mapUpdate t m k x) w)
 | .insert t m k x => force (ev f m) fun m => force (ev f k) fun k => force (ev f x) fun x => .need (.runU (Instr.mapUpdate t m k x) w)
 | .mapEntry t m k => force (ev f m) fun m => force (ev f k) fun k => .need (.runV (Instr.mapEntry t m k) w)
 | .entryStore t m s x => force (ev f m) fun m => force (ev f s) fun s => force (ev f x) fun x => .need (.runU (Instr.entryStore t m s x) w)
 | .convert s d x => (match ev f x with
   | .int _ _ => gen P f w o
   | x => .need (.runV (convert s d x) w))
 | _ => gen P f w o
section
variable {P : Program} {f : Fr} {w : World} {o : Oper} {K : Value → World → Prop}
def Good (P : Program) (f : Fr) (w : World) (o : Oper) (K : Value → World → Prop) : Prop :=
 (∃ v w', (execOp (ev f) o).run P w = .ok (.value v) w' ∧ K v w') ∨ (∃ w', (execOp (ev f) o).run P w = .ok .skip w' ∧ K undef w') ∨
 (∃ g args, (execOp (ev f) o).run P w = .ok (.enter g args) w ∧ Calls P g args w fun e w' => ∃ v, e = .returned v ∧ K v w')
theorem zle {n : Nat} (hf : Ok n f) (h : Good P f w o K) : o.wp P (act n f) w (fun a w' => ∃ v, a = (act n f).put o.dst v ∧ K v w') Nope := by
 unfold Oper.wp
 rw [zcP hf]
 rcases h with ⟨v, w', h1, h2⟩ | ⟨w', h1, h2⟩ | ⟨g, args, h1, h2⟩
 ·rw [h1]; exact ⟨v, rfl, h2⟩
 ·rw [h1]; exact ⟨undef, rfl, h2⟩
 ·rw [h1, Oper.upon_enter]
  refine Calls.mono h2 fun e w' he => ?_
  obtain ⟨v, rfl, hk⟩ := he
  exact ⟨v, rfl, hk⟩
theorem zbv (h : (gen P f w o).holds P K) : Good P f w o K := by
 unfold gen at h
 split at h
 ·rename_i v w' hr; exact .inl ⟨v, w', hr, h⟩
 ·rename_i w' hr; exact .inr (.inl ⟨w', hr, h⟩)
 ·exact h.elim
theorem zaU {s : Sem Value} (hs : execOp (ev f) o = (do pure (Next.value (← s)))) (h : ∃ v w', s.run P w = .ok v w' ∧ K v w') : Good P f w o K := by
 obtain ⟨v, w', h1, h2⟩ := h
 exact .inl ⟨v, w', by rw [hs]; simp [h1], h2⟩
theorem zjt {s : Sem Unit} (hs : execOp (ev f) o = (do s; pure Next.skip)) (h : ∃ w', s.run P w = .ok () w' ∧ K undef w') : Good P f w o K := by
 obtain ⟨w', h1, h2⟩ := h
 exact .inr (.inl ⟨w', by rw [hs]; simp [h1], h2⟩)
end
end Go.Vc
