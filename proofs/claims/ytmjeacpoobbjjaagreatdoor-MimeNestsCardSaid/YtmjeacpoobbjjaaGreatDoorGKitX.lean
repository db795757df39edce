/- Helper lemmas that the proved statement rests on; no conditions of their own. -/
import Derived.RangeFuncIn
import Derived.OrdersIn
import Derived.TacticsIn
import Derived.Test.YtmjeacpoobbjjaaGreatDoorKit1
set_option linter.unusedVariables false
namespace Go.Pw
open Go
def RW (r : Option Nat) : Fence := { Fence.wide with round := r }
theorem zeZ {r : Option Nat} {n : Nat} {P : Program} {f : FuncId} {args : Array Value} {w : World} {R : Ending → World → Prop} (h : Calls P f args w R) : CallsIn (RW r) n P f args w R :=
 (callsIn_wide (n := n)).2 h
theorem zlq {r : Option Nat} {n : Nat} {P : Program} {row : String} {args : Array Value} {w : World} {R : Value → World → Prop} (h : Rows P row args w R) : RowsIn (RW r) n P row args w R :=
 fun c cs _ => let ⟨v, w', r, s⟩ := h c cs; ⟨v, w', r, stepsIn_wide.2 s⟩
theorem zjy {r : Option Nat} {n : Nat} {P : Program} {l : Nat} {f : FuncId} {tmps : Array Value} {assign body : Code} {w : World} {R : Ending → World → Prop} (h : RoundIn Fence.wide 0 P l f tmps assign body w R) : RoundIn (RW r) n P l f tmps assign body w R :=
 ⟨h.1, fun c cs _ => h.2 c cs (room_wide _)⟩
def upN (P : Program) (o : Oper) (a : Act) (next : Act → World → Prop) : Result Next → Prop
 | .ok (.value v) w' => next (a.put o.dst v) w'
 | .ok .skip w' => next (a.put o.dst undef) w'
 | .ok (.enter f args) w' => Calls P f args w' fun e w'' => (match e with | .returned v => next (a.put o.dst v) w'' | _ => False)
 | .ok (.row row args) w' => Rows P row args w' fun v w'' => next (a.put o.dst v) w''
 | .ok (.round l f tmps assign body) w' => RoundIn Fence.wide 0 P l f tmps assign body w' fun e w'' => (match e with | .returned v => next (a.put o.dst v) w'' | _ => False)
 | _ => False
end Go.Pw
namespace Go
open Go.Pw
def Oper.wpN (P : Program) (o : Oper) (a : Act) (w : World) (next : Act → World → Prop) : Prop := upN P o a next ((execOp a.eval o).run P w)
theorem Oper.wpN_mono {P : Program} {o : Oper} {a : Act} {w : World} {K K' : Act → World → Prop} (h : ∀ a w, K a w → K' a w) (hh : o.wpN P a w K) : o.wpN P a w K' := by
 unfold Oper.wpN at *
 generalize (execOp a.eval o).run P w = r at *
 cases r with
 | ok x w' =>
  cases x <;> simp only [upN] at hh ⊢ <;>
   first
    | exact h _ _ hh
    | exact Calls.mono hh (fun e w'' he => by cases e <;> first | exact h _ _ he | exact he)
    | exact Rows.mono hh (fun _ _ he => h _ _ he)
    | exact RoundIn.mono hh (fun e w'' he => by cases e <;> first | exact h _ _ he | exact he)
 | halt x w' => exact hh
end Go
namespace Go.Pw
open Go
variable {P : Program}
theorem ziW {o : Oper} {a : Act} {w : World} {K : Act → World → Prop} (h : o.wpN P a w K) : ∀ c, o.op ≠ .defer c := by
 intro c hc
 unfold Oper.wpN at h
 obtain ⟨dst, op, type, pos, aft, guard⟩ := o
 dsimp only at hc
 subst hc
 simp only [execOp, Sem.run_bind] at h
 cases hr : (resolve a.eval c type).run P w with
 | ok d w' => rw [hr] at h; exact h
 | halt x w' => rw [hr] at h; exact h
theorem zfK {r : Option Nat} {o : Oper} {a : Act} {w : World} {K : Act → World → Prop} {Q : Exit → Act → World → Prop} (h : o.wpN P a w K) : o.wpIn (RW r) 0 P a w K Q := by
 have hd := ziW h
 refine ⟨fun _ _ => trivial, ?_⟩
 rw [Oper.semAt_eq _ _ _ hd]
 unfold Oper.wpN at h
 generalize (execOp a.eval o).run P w = q at *
 have h0 : (RW r).depth.isSome = true → 1 ≤ 0 := fun h => by simp [RW, Fence.wide] at h
 cases q with
 | ok x w' =>
  cases x <;> simp only [upN] at h <;> simp only [Oper.uponIn]
  case value => exact h
  case skip => exact h
  case enter => exact ⟨h0, zeZ (Calls.mono h (fun e w'' he => by cases e <;> first | exact he | exact he.elim))⟩
  case row => exact ⟨h0, zlq h⟩
  case round => exact ⟨h0, zjy (RoundIn.mono h (fun e w'' he => by cases e <;> first | exact he | exact he.elim))⟩
 | halt x w' => exact h.elim
def plainC : Code → Bool
 | .seq a b => plainC a && plainC b
 | .cond _ a b => plainC a && plainC b
 | .block _ c => plainC c
 | .loop c => plainC c
 | .scope c => plainC c
 | .rangeFunc .. => false
 | _ => true
end Go.Pw
namespace Go
open Go.Pw
def Code.wpX (P : Program) (c : Code) (Q : Exit → Act → World → Prop) (a : Act) (w : World) : Prop := ∀ r, (r = none ∨ plainC c = true) → c.wpIn (RW r) 0 P Q a w
theorem zeV {P : Program} {c : Code} {Q Q' : Exit → Act → World → Prop} {a : Act} {w : World} (h : c.wpX P Q a w) (hq : ∀ e a w, Q e a w → Q' e a w) : c.wpX P Q' a w := fun r hr => wpIn_mono (h r hr) hq
theorem zkp {P : Program} {Q : Exit → Act → World → Prop} {a : Act} {w : World} (h : Q .normal a w) : Code.skip.wpX P Q a w := fun r _ => wpIn_skip h
theorem zjN {P : Program} {id : Nat} {Q : Exit → Act → World → Prop} {a : Act} {w : World} (h : Q (.exit id) a w) : (Code.exit id).wpX P Q a w := fun r _ => wpIn_exit h
theorem zla {P : Program} {Q : Exit → Act → World → Prop} {a : Act} {w : World} (h : Q .ret a w) : Code.ret.wpX P Q a w := fun r _ => wpIn_ret h
theorem zlH {P : Program} {x y : Code} {Q : Exit → Act → World → Prop} {a : Act} {w : World} (h : x.wpX P (Exit.then (y.wpX P Q) Q) a w) : (Code.seq x y).wpX P Q a w := fun r hr => by
 have hr' : (r = none ∨ plainC x = true) ∧ (r = none ∨ plainC y = true) := by
  rcases hr with h | h
  ·exact ⟨.inl h, .inl h⟩
  ·simp only [plainC, Bool.and_eq_true] at h; exact ⟨.inr h.1, .inr h.2⟩
 exact wpIn_seq (wpIn_mono (h r hr'.1) fun e a w he => by cases e <;> first | exact he r hr'.2 | exact he)
theorem zdR {P : Program} {c : Operand} {x y : Code} {Q : Exit → Act → World → Prop} {a : Act} {w : World} {t : Bool} (hc : a.eval c = .bool t) (ht : t = true → x.wpX P Q a w) (hf : t = false → y.wpX P Q a w) : (Code.cond c x y).wpX P Q a w := fun r hr => by
 have hr' : (r = none ∨ plainC x = true) ∧ (r = none ∨ plainC y = true) := by
  rcases hr with h | h
  ·exact ⟨.inl h, .inl h⟩
  ·simp only [plainC, Bool.and_eq_true] at h; exact ⟨.inr h.1, .inr h.2⟩
 exact wpIn_cond_split hc (fun e => ht e r hr'.1) (fun e => hf e r hr'.2)
theorem ziA {P : Program} {id : Nat} {c : Code} {Q : Exit → Act → World → Prop} {a : Act} {w : World} (h : c.wpX P (Exit.inBlock id Q) a w) : (Code.block id c).wpX P Q a w := fun r hr => wpIn_block (h r hr)
end Go
namespace Go.Pw
open Go
variable {P : Program} {ops : Array Oper}
def wpOpX (P : Program) (ops : Array Oper) (i : Nat) (K : Act → World → Prop) (a : Act) (w : World) : Prop :=
 match ops[i]? with
 | none => K a w
 | some o => if Region.wanted o (yielded ops a.tmps) then o.wpN P a w K else K (a.put o.dst undef) w
def wpAnyX (P : Program) (md : Region.Mode) (ops : Array Oper) (Q : Act → World → Prop) : Nat → Array Bool → Act → World → Prop
 | 0, listed, a, w => Region.ready md ops listed = [] ∧ Q a w
 | fuel + 1, listed, a, w =>
  (Region.ready md ops listed = [] → Q a w) ∧
  ∀ i ∈ Region.ready md ops listed, wpOpX P ops i (wpAnyX P md ops Q fuel (listed.setIfInBounds i true)) a w
theorem zbo {i : Nat} {K K' : Act → World → Prop} {a : Act} {w : World} (h : ∀ a w, K a w → K' a w) (hh : wpOpX P ops i K a w) : wpOpX P ops i K' a w := by
 unfold wpOpX at *
 split
 ·rename_i ho; simp only [ho] at hh; exact h _ _ hh
 ·rename_i o ho
  simp only [ho] at hh
  split
  ·rename_i hw; rw [if_pos hw] at hh; exact Oper.wpN_mono h hh
  ·rename_i hw; rw [if_neg hw] at hh; exact h _ _ hh
theorem ziF {r : Option Nat} {i : Nat} {K : Act → World → Prop} {Q : Exit → Act → World → Prop} {a : Act} {w : World} (hh : wpOpX P ops i K a w) : wpOpIn (RW r) 0 P ops Q i K a w := by
 unfold wpOpX at hh; unfold wpOpIn
 split
 ·rename_i ho; simp only [ho] at hh; exact hh
 ·rename_i o ho
  simp only [ho] at hh
  split
  ·rename_i hw; rw [if_pos hw] at hh; exact zfK hh
  ·rename_i hw; rw [if_neg hw] at hh; exact ⟨fun _ _ => trivial, hh⟩
theorem zeo {r : Option Nat} {md : Region.Mode} {Q : Exit → Act → World → Prop} : ∀ (fuel : Nat) (listed : Array Bool) (a : Act) (w : World), wpAnyX P md ops (Q .normal) fuel listed a w → wpAnyIn (RW r) 0 P md ops Q fuel listed a w
 | 0, _, _, _, h => h
 | fuel + 1, listed, a, w, h => ⟨h.1, fun i hi => ziF (zbo (zeo fuel _) (h.2 i hi))⟩
theorem zaO {Q : Exit → Act → World → Prop} {id : Nat} {a : Act} {w : World} (hm : P.follows .mixedOrders = true)
  (h : wpAnyX P .any ops (Q .normal) ops.size (Array.replicate ops.size false) a w.drew) : (Code.region id ops true).wpX P Q a w := fun r _ => wpIn_region_any hm (zeo _ _ _ _ h)
def wpLX (P : Program) (ops : Array Oper) (Q : Act → World → Prop) : List Oper → Act → World → Prop
 | [], a, w => Q a w
 | o :: rest, a, w => if Region.wanted o (yielded ops a.tmps) = true then o.wpN P a w (wpLX P ops Q rest) else wpLX P ops Q rest (a.put o.dst undef) w
theorem zbR {r : Option Nat} {Q : Exit → Act → World → Prop} : ∀ (l : List Oper) (a : Act) (w : World), wpLX P ops (Q .normal) l a w → wpListIn (RW r) 0 P ops Q l a w
 | [], _, _, h => h
 | o :: l, a, w, h => by
  unfold wpLX at h; unfold wpListIn
  split
  ·rename_i hw; rw [if_pos hw] at h; exact zfK (Oper.wpN_mono (zbR l) h)
  ·rename_i hw; rw [if_neg hw] at h; exact ⟨fun _ _ => trivial, zbR l _ _ h⟩
theorem zdL {Q : Exit → Act → World → Prop} {id : Nat} {l : List Oper} {a : Act} {w : World} (h : wpLX P l.toArray (Q .normal) l a w) : (Code.region id l.toArray false).wpX P Q a w := fun r _ => wpIn_region_lit (zbR _ _ _ h)
theorem zhz {Q : Exit → Act → World → Prop} {a : Act} {w : World} {c : Code} {ι : Type} (I : ι → Act → World → Prop) (μ : ι → Nat) (i₀ : ι) (h₀ : I i₀ a w)
  (round : ∀ i a w, I i a w → c.wpX P (Exit.then (fun a' w' => ∃ j, I j a' w' ∧ μ j < μ i) Q) a w) : (Code.loop c).wpX P Q a w := by
 intro r hpl b k cs hro hb hr
 have hpl : r = none ∨ plainC c = true := hpl
 have key : ∀ m i a w, μ i = m → I i a w →
   ∃ e a' w', Q e a' w' ∧ ArrivesIn (Machine.fenced P (RW r)) P (lone (b.atR a (.code c :: .inLoop c :: k)) cs w) b k cs e a' w' := by
  intro m
  induction m using Nat.strongRecOn with
  | _ m ih =>
   intro i a w hn hI
   obtain ⟨e, a₁, w₁, hq, harr⟩ := round i a w hI r hpl b (.inLoop c :: k) cs hro hb hr
   cases e with
   | normal =>
    obtain ⟨j, hI₁, hlt⟩ := hq
    obtain ⟨e₂, a₂, w₂, hq₂, harr₂⟩ := ih (μ j) (hn ▸ hlt) j a₁ w₁ rfl hI₁
    exact ⟨e₂, a₂, w₂, hq₂, .of_steps (StepsIn.trans harr (.one (fenced_calm hb hr rfl) stepR_inLoop)) harr₂⟩
   | exit id => exact ⟨_, a₁, w₁, hq, .pass (x := .inLoop c) rfl (fun _ _ => .inl (by simp)) harr⟩
   | goto l => exact ⟨_, a₁, w₁, hq, .pass (x := .inLoop c) rfl (fun _ _ => .inl (by simp)) harr⟩
   | ret => exact ⟨_, a₁, w₁, hq, .pass (x := .inLoop c) rfl (fun _ _ => .inl (by simp)) harr⟩
   | panic ch => exact ⟨_, a₁, w₁, hq, .pass (x := .inLoop c) rfl (fun _ _ => .inl (by simp)) harr⟩
   | outgrown => exact ⟨_, a₁, w₁, hq, .pass (x := .inLoop c) rfl (fun _ _ => .inl (by simp)) harr⟩
 obtain ⟨e, a', w', hq, harr⟩ := key _ i₀ a w rfl h₀
 exact ⟨e, a', w', hq, .of_steps (.one (fenced_calm hb hr rfl) stepR_loop) harr⟩
end Go.Pw
namespace Go.Pw
open Go
section
variable {P : Program} {ops : Array Oper}
def T1 (P : Program) (ops : Array Oper) (o : Oper) (K : Act → World → Prop) (a : Act) (w : World) : Prop :=
 if Region.wanted o (yielded ops a.tmps) = true then (kindOf P o = .pure → calmOk a.eval o = true) ∧ o.wpN P a w K
 else K (a.put o.dst undef) w
def wpT (P : Program) (ops : Array Oper) (Q : Act → World → Prop) : List Oper → Act → World → Prop
 | [], a, w => Q a w
 | o :: r, a, w => T1 P ops o (wpT P ops Q r) a w
def TI (P : Program) (ops : Array Oper) (i : Nat) (K : Act → World → Prop) (a : Act) (w : World) : Prop :=
 match ops[i]? with
 | none => K a w
 | some o => T1 P ops o K a w
def wpI (P : Program) (ops : Array Oper) (Q : Act → World → Prop) : List Nat → Act → World → Prop
 | [], a, w => Q a w
 | i :: r, a, w => TI P ops i (wpI P ops Q r) a w
theorem T1_mono {o : Oper} {K K' : Act → World → Prop} {a : Act} {w : World} (h : ∀ a w, K a w → K' a w) (hh : T1 P ops o K a w) : T1 P ops o K' a w := by
 unfold T1 at *
 split
 ·rename_i hw; rw [if_pos hw] at hh; exact ⟨hh.1, Oper.wpN_mono h hh.2⟩
 ·rename_i hw; rw [if_neg hw] at hh; exact h _ _ hh
theorem TI_mono {i : Nat} {K K' : Act → World → Prop} {a : Act} {w : World} (h : ∀ a w, K a w → K' a w) (hh : TI P ops i K a w) : TI P ops i K' a w := by
 unfold TI at *
 split
 ·rename_i ho; simp only [ho] at hh; exact h _ _ hh
 ·rename_i o ho; simp only [ho] at hh; exact T1_mono h hh
theorem zcE {i : Nat} {K : Act → World → Prop} {a : Act} {w : World} (hh : TI P ops i K a w) : wpOpX P ops i K a w := by
 unfold TI at hh; unfold wpOpX
 split
 ·rename_i ho; simp only [ho] at hh; exact hh
 ·rename_i o ho
  simp only [ho] at hh
  unfold T1 at hh
  split
  ·rename_i hw; rw [if_pos hw] at hh; exact hh.2
  ·rename_i hw; rw [if_neg hw] at hh; exact hh
theorem zfu {ρ ρ' : Operand → Value} {o : Oper} (hk : kindOf P o = .pure) (h : ∀ x ∈ o.op.operands, ρ x = ρ' x) : calmOk ρ o = calmOk ρ' o := by
 obtain ⟨dst, op, type, pos, after, guard⟩ := o
 cases op <;> simp only [Op.operands] at h <;> simp only [calmOk]
 case nilCheck x => rw [h x (by simp)]
 case binOp op xt x y yt => rw [h x (by simp), h y (by simp)]
 case convert s d x => rw [h x (by simp)]
 case call c =>
  obtain ⟨callee, args, ats⟩ := c
  simp only [kindOf] at hk
  cases callee with
  | value f => rfl
  | invoke r m => rfl
  | builtin b =>
   cases b <;> simp only [reduceCtorEq] at hk <;> simp only []
   case len =>
    split at hk
    ·rename_i hs
     obtain ⟨x, rfl⟩ : ∃ x, args = #[x] := Array.size_eq_one_iff.1 hs
     have := h x (by simp [Call.operands])
     simp [this]
    ·cases hk
   case max =>
    split at hk
    ·rename_i hs
     obtain ⟨x, y, rfl⟩ : ∃ x y, args = #[x, y] := by
      obtain ⟨l⟩ := args
      match l, hs with
      | [x, y], _ => exact ⟨x, y, rfl⟩
     have h1 := h x (by simp [Call.operands])
     have h2 := h y (by simp [Call.operands])
     simp [h1, h2]
    ·cases hk
   case min =>
    split at hk
    ·rename_i hs
     obtain ⟨x, y, rfl⟩ : ∃ x y, args = #[x, y] := by
      obtain ⟨l⟩ := args
      match l, hs with
      | [x, y], _ => exact ⟨x, y, rfl⟩
     have h1 := h x (by simp [Call.operands])
     have h2 := h y (by simp [Call.operands])
     simp [h1, h2]
    ·cases hk
def NoSel (o : Oper) : Prop := ∀ cs b, o.op ≠ .select cs b
theorem zbp {o : Oper} (hk : kindOf P o = .pure) (a : Act) (dst : Option Tmp) (v : Value) (h : ∀ d, dst = some d → d ∉ o.looksAt ops) :
  calmOk (a.put dst v).eval o = calmOk a.eval o :=
 zfu hk fun x hx => Act.eval_put fun d hd hxd => h d hd (by
  subst hxd
  exact List.mem_append_left _ (List.mem_filterMap.2 ⟨.tmp d, by simpa using hx, rfl⟩))
def YieldsP (P : Program) (ops : Array Oper) (o : Oper) (v : Value) (a : Act) : Prop :=
 (Region.wanted o (yielded ops a.tmps) = true ∧ calmOk a.eval o = true ∧ ∀ w, (execOp a.eval o).run P w = .ok (.value v) w) ∨
 (Region.wanted o (yielded ops a.tmps) = false ∧ v = undef)
theorem YieldsP.put {o : Oper} {v : Value} {a : Act} (hk : kindOf P o = .pure) (hs : NoSel o) (hy : YieldsP P ops o v a) (dst : Option Tmp) (u : Value) (h : ∀ d, dst = some d → d ∉ o.looksAt ops) :
  YieldsP P ops o v (a.put dst u) := by
 unfold YieldsP at *
 rw [execOp_put o hs a dst u h, wanted_put o a dst u h, zbp hk a dst u h]
 exact hy
theorem YieldsP.unput {o : Oper} {v : Value} {a : Act} (hk : kindOf P o = .pure) (hs : NoSel o) (dst : Option Tmp) (u : Value) (h : ∀ d, dst = some d → d ∉ o.looksAt ops) (hy : YieldsP P ops o v (a.put dst u)) :
  YieldsP P ops o v a := by
 unfold YieldsP at *
 rw [execOp_put o hs a dst u h, wanted_put o a dst u h, zbp hk a dst u h] at hy
 exact hy
theorem YieldsP.defers {o : Oper} {v : Value} {a : Act} (ds : List Deferred) (hy : YieldsP P ops o v a) : YieldsP P ops o v { a with defers := ds } := hy
theorem YieldsP.uniq {o : Oper} {u v : Value} {a : Act} (h : YieldsP P ops o u a) (k : YieldsP P ops o v a) : u = v := by
 rcases h with ⟨h1, _, h3⟩ | ⟨h1, rfl⟩ <;> rcases k with ⟨k1, _, k3⟩ | ⟨k1, rfl⟩
 ·have := (h3 default).symm.trans (k3 default); simpa using this
 ·rw [h1] at k1; cases k1
 ·rw [h1] at k1; cases k1
 ·rfl
theorem YieldsP.t1 {o : Oper} {v : Value} {a : Act} {K : Act → World → Prop} {w : World} (hy : YieldsP P ops o v a) (h : K (a.put o.dst v) w) : T1 P ops o K a w := by
 unfold T1
 rcases hy with ⟨h1, h2, h3⟩ | ⟨h1, rfl⟩
 ·rw [if_pos h1]; refine ⟨fun _ => h2, ?_⟩; unfold Oper.wpN; rw [h3 w]; exact h
 ·rw [if_neg (by simp [h1])]; exact h
theorem zbZ {o : Oper} {a : Act} {K : Act → World → Prop} {w : World} (hk : kindOf P o = .pure) (h : T1 P ops o K a w) : ∃ v, YieldsP P ops o v a ∧ K (a.put o.dst v) w := by
 unfold T1 at h
 split at h
 ·rename_i hw
  obtain ⟨hc, h⟩ := h
  have hcv := zdd (ρ := a.eval) hk (hc hk)
  unfold Oper.wpN at h
  cases hr : (execOp a.eval o).run P w with
  | ok n w' =>
   obtain ⟨v, rfl, rfl, k⟩ := hcv _ _ _ hr
   rw [hr] at h
   exact ⟨v, .inl ⟨hw, hc hk, k⟩, h⟩
  | halt x w' =>
   rw [hr] at h
   exact h.elim
 ·rename_i hw
  exact ⟨undef, .inr ⟨by simpa using hw, rfl⟩, h⟩
theorem zlL {x y : Oper} {K : Act → World → Prop} {a : Act} {w : World} (hap : x.apart ops y = true) (hsx : NoSel x) (hsy : NoSel y) (hk : kindOf P x = .pure)
  (h : T1 P ops x (T1 P ops y K) a w) : T1 P ops y (T1 P ops x K) a w := by
 obtain ⟨h1, h2, h3⟩ := Oper.apart_spec hap
 obtain ⟨v, hy, h⟩ := zbZ hk h
 have fin : ∀ (a : Act) (u : Value) (w' : World), YieldsP P ops x v a → K ((a.put y.dst u).put x.dst v) w' → T1 P ops x K (a.put y.dst u) w' :=
  fun a u w' hy hK => (hy.put hk hsx y.dst u h3).t1 hK
 unfold T1 at h ⊢
 rw [wanted_put y a x.dst v h1] at h
 split
 ·rename_i hw
  rw [if_pos hw] at h
  obtain ⟨hc, h⟩ := h
  refine ⟨fun hky => by rw [← zbp (ops := ops) hky a x.dst v h1]; exact hc hky, ?_⟩
  unfold Oper.wpN at *
  rw [execOp_put y hsy a x.dst v h1] at h
  generalize (execOp a.eval y).run P w = r at *
  cases r with
  | ok n w' =>
   cases n <;> simp only [upN] at h ⊢
   case value u => exact fin a u w' hy (by rw [← Act.put_comm a v u h2]; exact h)
   case skip => exact fin a _ w' hy (by rw [← Act.put_comm a v undef h2]; exact h)
   case enter f args =>
    refine Calls.mono h fun e w'' he => ?_
    cases e with
    | returned u => exact fin a u w'' hy (by rw [← Act.put_comm a v u h2]; exact he)
    | panicked c => exact he
    | outgrown => exact he
   case round l f tmps assign body =>
    refine RoundIn.mono h fun e w'' he => ?_
    cases e with
    | returned u => exact fin a u w'' hy (by rw [← Act.put_comm a v u h2]; exact he)
    | panicked c => exact he
    | outgrown => exact he
   case row row args => exact Rows.mono h fun u w'' he => fin a u w'' hy (by rw [← Act.put_comm a v u h2]; exact he)
  | halt q w' => exact h.elim
 ·rename_i hw
  rw [if_neg hw] at h
  exact fin a _ w hy (by rw [← Act.put_comm a v undef h2]; exact h)
theorem zlN {x y : Oper} {K : Act → World → Prop} {a : Act} {w : World} (hap : x.apart ops y = true) (hsx : NoSel x) (hsy : NoSel y) (hk : kindOf P y = .pure)
  (h : T1 P ops x (T1 P ops y K) a w) : T1 P ops y (T1 P ops x K) a w := by
 obtain ⟨h1, h2, h3⟩ := Oper.apart_spec hap
 have back : ∀ (a : Act) (u : Value) (w' : World), T1 P ops y K (a.put x.dst u) w' → ∃ v, YieldsP P ops y v a ∧ K ((a.put x.dst u).put y.dst v) w' := fun a u w' h => by
  obtain ⟨v, hy, hK⟩ := zbZ hk h
  exact ⟨v, hy.unput hk hsy x.dst u h1, hK⟩
 have key : ∃ v, YieldsP P ops y v a := by
  unfold T1 at h
  split at h
  ·obtain ⟨_, h⟩ := h
   unfold Oper.wpN at h
   generalize (execOp a.eval x).run P w = r at *
   cases r with
   | ok n w' =>
    cases n <;> simp only [upN] at h
    case value u => obtain ⟨v, hy, _⟩ := back a u w' h; exact ⟨v, hy⟩
    case skip => obtain ⟨v, hy, _⟩ := back a _ w' h; exact ⟨v, hy⟩
    case enter f args =>
     obtain ⟨e, w'', fr, hR, _⟩ := h []
     cases e with
     | returned u => obtain ⟨v, hy, _⟩ := back a u w'' hR; exact ⟨v, hy⟩
     | panicked c => exact hR.elim
     | outgrown => exact hR.elim
    case round l f tmps assign body =>
     obtain ⟨e, w'', hR, _⟩ := h.2 default [] (room_wide _)
     cases e with
     | returned u => obtain ⟨v, hy, _⟩ := back a u w'' hR; exact ⟨v, hy⟩
     | panicked c => exact hR.elim
     | outgrown => exact hR.elim
    case row row args =>
     obtain ⟨u, w'', hR, _⟩ := h default []
     obtain ⟨v, hy, _⟩ := back a u w'' hR; exact ⟨v, hy⟩
   | halt q w' => exact h.elim
  ·obtain ⟨v, hy, _⟩ := back a _ w h; exact ⟨v, hy⟩
 obtain ⟨v, hy⟩ := key
 refine hy.t1 ?_
 have fwd : ∀ (a : Act) (u : Value) (w' : World), YieldsP P ops y v a → T1 P ops y K (a.put x.dst u) w' → K ((a.put y.dst v).put x.dst u) w' := fun a u w' hy h => by
  obtain ⟨v', hy', hK⟩ := back a u w' h
  obtain rfl := hy'.uniq hy
  rw [← Act.put_comm a u v' h2]; exact hK
 have hd : ∀ d, y.dst = some d → d ∉ x.looksAt ops := h3
 unfold T1 at h ⊢
 rw [wanted_put x a y.dst v hd]
 split
 ·rename_i hw
  rw [if_pos hw] at h
  obtain ⟨hc, h⟩ := h
  refine ⟨fun hkx => by rw [zbp (ops := ops) hkx a y.dst v hd]; exact hc hkx, ?_⟩
  unfold Oper.wpN at *
  rw [execOp_put x hsx a y.dst v hd]
  generalize (execOp a.eval x).run P w = r at *
  cases r with
  | ok n w' =>
   cases n <;> simp only [upN] at h ⊢
   case value u => exact fwd a u w' hy h
   case skip => exact fwd a _ w' hy h
   case enter f args =>
    refine Calls.mono h fun e w'' he => ?_
    cases e with
    | returned u => exact fwd a u w'' hy he
    | panicked c => exact he
    | outgrown => exact he
   case round l f tmps assign body =>
    refine RoundIn.mono h fun e w'' he => ?_
    cases e with
    | returned u => exact fwd a u w'' hy he
    | panicked c => exact he
    | outgrown => exact he
   case row row args => exact Rows.mono h fun u w'' he => fwd a u w'' hy he
  | halt q w' => exact h.elim
 ·rename_i hw
  rw [if_neg hw] at h
  exact fwd a _ w hy h
def YieldsW (P : Program) (ops : Array Oper) (w : World) (o : Oper) (v : Value) (a : Act) : Prop :=
 (Region.wanted o (yielded ops a.tmps) = true ∧ (execOp a.eval o).run P w = .ok (.value v) w) ∨
 (Region.wanted o (yielded ops a.tmps) = false ∧ v = undef)
theorem zbW {o : Oper} {a : Act} {K : Act → World → Prop} {w : World} (hk : kindOf P o = .read) (h : T1 P ops o K a w) : ∃ v, YieldsW P ops w o v a ∧ K (a.put o.dst v) w := by
 unfold T1 at h
 split at h
 ·rename_i hw
  obtain ⟨hc, h⟩ := h
  unfold Oper.wpN at h
  cases hr : (execOp a.eval o).run P w with
  | ok n w' =>
   obtain ⟨rfl, v, rfl⟩ := zer (ρ := a.eval) hk _ _ _ hr
   rw [hr] at h
   exact ⟨v, .inl ⟨hw, hr⟩, h⟩
  | halt x w' =>
   rw [hr] at h
   exact h.elim
 ·rename_i hw
  exact ⟨undef, .inr ⟨by simpa using hw, rfl⟩, h⟩
theorem YieldsW.t1 {o : Oper} {v : Value} {a : Act} {K : Act → World → Prop} {w : World} (hk : kindOf P o = .read) (hy : YieldsW P ops w o v a) (h : K (a.put o.dst v) w) : T1 P ops o K a w := by
 unfold T1
 rcases hy with ⟨h1, h3⟩ | ⟨h1, rfl⟩
 ·rw [if_pos h1]; refine ⟨fun h => (by rw [hk] at h; cases h), ?_⟩; unfold Oper.wpN; rw [h3]; exact h
 ·rw [if_neg (by simp [h1])]; exact h
theorem YieldsW.put_iff {o : Oper} {v : Value} {a : Act} {w : World} (hs : NoSel o) (dst : Option Tmp) (u : Value) (h : ∀ d, dst = some d → d ∉ o.looksAt ops) :
  YieldsW P ops w o v (a.put dst u) ↔ YieldsW P ops w o v a := by
 unfold YieldsW
 rw [execOp_put o hs a dst u h, wanted_put o a dst u h]
theorem zkT {x y : Oper} {K : Act → World → Prop} {a : Act} {w : World} (hap : x.apart ops y = true) (hsx : NoSel x) (hsy : NoSel y) (hkx : kindOf P x = .read) (hky : kindOf P y = .read)
  (h : T1 P ops x (T1 P ops y K) a w) : T1 P ops y (T1 P ops x K) a w := by
 obtain ⟨h1, h2, h3⟩ := Oper.apart_spec hap
 obtain ⟨u, hx, h⟩ := zbW hkx h
 obtain ⟨v, hy, h⟩ := zbW hky h
 rw [YieldsW.put_iff hsy _ _ h1] at hy
 refine hy.t1 hky (((YieldsW.put_iff hsx _ _ h3).2 hx).t1 hkx ?_)
 rw [← Act.put_comm a u v h2]; exact h
def commB (P : Program) (ops : Array Oper) (x y : Oper) : Bool :=
 x.apart ops y && (kindOf P x == .pure || kindOf P y == .pure || (kindOf P x == .read && kindOf P y == .read))
theorem swap {x y : Oper} {K : Act → World → Prop} {a : Act} {w : World} (hsx : NoSel x) (hsy : NoSel y) (hc : commB P ops x y = true)
  (h : T1 P ops x (T1 P ops y K) a w) : T1 P ops y (T1 P ops x K) a w := by
 simp only [commB, Bool.and_eq_true, Bool.or_eq_true, beq_iff_eq] at hc
 obtain ⟨hap, (hk | hk) | ⟨hk, hk'⟩⟩ := hc
 ·exact zlL hap hsx hsy hk h
 ·exact zlN hap hsx hsy hk h
 ·exact zkT hap hsx hsy hk hk' h
def selB (o : Oper) : Bool := match o.op with | .select .. => false | _ => true
theorem zhp {o : Oper} (h : selB o = true) : NoSel o := fun cs b he => by simp [selB, he] at h
def textB (P : Program) (ops : Array Oper) : Bool :=
 let m := Region.before ops
 (List.range ops.size).all fun i =>
  let o := ops.getD i default
  selB o && o.after.all (fun e => !Region.binds .any e || decide (e.on < i)) &&
  (List.range i).all fun j =>
   if (m.getD i 0).testBit j then o.after.any (fun e => Region.binds .any e && (e.on == j || (decide (j < e.on) && (m.getD e.on 0).testBit j)))
   else commB P ops (ops.getD j default) o
structure TextOk (P : Program) (ops : Array Oper) (m : Array Nat) : Prop where
 sel : ∀ (i : Nat) (o : Oper), ops[i]? = some o → NoSel o
 back : ∀ (i : Nat) (o : Oper), ops[i]? = some o → ∀ e ∈ o.after, Region.binds .any e = true → e.on < i
 dep : ∀ (i : Nat) (o : Oper), ops[i]? = some o → ∀ j, j < i → (m.getD i 0).testBit j = true → ∃ e ∈ o.after, Region.binds .any e = true ∧ (e.on = j ∨ (j < e.on ∧ (m.getD e.on 0).testBit j = true))
 comm : ∀ (i : Nat) (o : Oper), ops[i]? = some o → ∀ (j : Nat) (p : Oper), ops[j]? = some p → j < i → (m.getD i 0).testBit j = false → commB P ops p o = true
theorem ziO (h : textB P ops = true) : TextOk P ops (Region.before ops) := by
 unfold textB at h
 simp only [List.all_eq_true, List.mem_range, Bool.and_eq_true] at h
 have lt : ∀ (i : Nat) (o : Oper), ops[i]? = some o → i < ops.size ∧ ops.getD i default = o := fun i o ho => by
  obtain ⟨hi, he⟩ := Array.getElem?_eq_some_iff.1 ho
  exact ⟨hi, by simp [hi, he]⟩
 refine ⟨fun i o ho => ?_, fun i o ho e he hb => ?_, fun i o ho j hj hm => ?_, fun i o ho j p hp hj hm => ?_⟩
 ·obtain ⟨hi, he⟩ := lt i o ho
  have := (h i hi).1.1
  rw [he] at this; exact zhp this
 ·obtain ⟨hi, he'⟩ := lt i o ho
  have := (h i hi).1.2
  rw [he'] at this
  have := (Array.all_eq_true_iff_forall_mem.1 this) e he
  simpa [hb] using this
 ·obtain ⟨hi, he'⟩ := lt i o ho
  have := (h i hi).2 j hj
  rw [he', if_pos hm] at this
  obtain ⟨e, he, hb⟩ := Array.any_eq_true'.1 this
  simp only [Bool.and_eq_true, Bool.or_eq_true, beq_iff_eq, decide_eq_true_eq] at hb
  exact ⟨e, he, hb.1, hb.2⟩
 ·obtain ⟨hi, he'⟩ := lt i o ho
  obtain ⟨_, hp'⟩ := lt j p hp
  have := (h i hi).2 j hj
  rw [he', hp', hm] at this
  simpa using this
def Closed (ops : Array Oper) (listed : Array Bool) : Prop :=
 ∀ (i : Nat) (o : Oper), ops[i]? = some o → listed.getD i false = true → ∀ e ∈ o.after, Region.binds .any e = true → listed.getD e.on false = true
theorem zht {m : Array Nat} {listed : Array Bool} (ok : TextOk P ops m) (hcl : Closed ops listed) : ∀ (n i : Nat) (o : Oper), i ≤ n → ops[i]? = some o →
  (∀ e ∈ o.after, Region.binds .any e = true → listed.getD e.on false = true) → ∀ j, j < i → (m.getD i 0).testBit j = true → listed.getD j false = true := by
 intro n
 induction n with
 | zero => intro i o hi _ _ j hj; omega
 | succ n ih =>
  intro i o hi ho hdeps j hj hm
  obtain ⟨e, he, hb, hor⟩ := ok.dep i o ho j hj hm
  have hlt := ok.back i o ho e he hb
  have hl := hdeps e he hb
  rcases hor with rfl | hor
  ·exact hl
  ·obtain ⟨o', ho'⟩ : ∃ o', ops[e.on]? = some o' := by
    obtain ⟨hi', _⟩ := Array.getElem?_eq_some_iff.1 ho
    exact ⟨ops[e.on], Array.getElem?_eq_getElem (by omega)⟩
   exact ih e.on o' (by omega) ho' (hcl e.on o' ho' hl) j hor.1 hor.2
theorem bubble {Q : Act → World → Prop} {m : Array Nat} (ok : TextOk P ops m) {i : Nat} {o : Oper} (ho : ops[i]? = some o) : ∀ (pre post : List Nat),
  (∀ j ∈ pre, j < i ∧ (m.getD i 0).testBit j = false) → ∀ (a : Act) (w : World), wpI P ops Q (pre ++ i :: post) a w → TI P ops i (wpI P ops Q (pre ++ post)) a w
 | [], post, _, a, w, h => h
 | j :: pre, post, hp, a, w, h => by
  have ih := bubble (Q := Q) ok ho pre post (fun k hk => hp k (List.mem_cons_of_mem _ hk))
  have h' : TI P ops j (TI P ops i (wpI P ops Q (pre ++ post))) a w := TI_mono (fun a w => ih a w) h
  show TI P ops i (TI P ops j (wpI P ops Q (pre ++ post))) a w
  obtain ⟨hj, hm⟩ := hp j List.mem_cons_self
  unfold TI at h' ⊢
  simp only [ho] at h' ⊢
  cases hpj : ops[j]? with
  | none => simp only [hpj] at h' ⊢; exact h'
  | some p =>
   simp only [hpj] at h' ⊢
   exact swap (ok.sel j p hpj) (ok.sel i o ho) (ok.comm i o ho j p hpj hj hm) h'
theorem anyOrder {Q : Exit → Act → World → Prop} {m : Array Nat} (ok : TextOk P ops m) : ∀ (fuel : Nat) (L : List Nat) (listed : Array Bool) (a : Act) (w : World),
  L.length = fuel → listed.size = ops.size → Closed ops listed → L.Pairwise (· < ·) → (∀ j, j ∈ L ↔ j < ops.size ∧ listed.getD j false = false) →
  wpI P ops (Q .normal) L a w → wpAnyX P .any ops (Q .normal) fuel listed a w := by
 intro fuel
 induction fuel with
 | zero =>
  intro L listed a w hlen hsz hcl hpw hmem h
  obtain rfl : L = [] := List.eq_nil_of_length_eq_zero hlen
  refine ⟨?_, h⟩
  refine List.eq_nil_iff_forall_not_mem.2 fun i hi => ?_
  obtain ⟨h0, o, ho, _⟩ := mem_ready.1 hi
  have hlt : i < ops.size := (Array.getElem?_eq_some_iff.1 ho).1
  have h0' : listed.getD i false = false := by
   have : i < listed.size := by omega
   simp [this] at h0 ⊢; exact h0
  have := (hmem i).2 ⟨hlt, h0'⟩
  cases this
 | succ fuel ih =>
  intro L listed a w hlen hsz hcl hpw hmem h
  refine ⟨fun hr => ?_, fun i hi => ?_⟩
  ·cases L with
   | nil => cases hlen
   | cons i L =>
    exfalso
    obtain ⟨hlt, h0⟩ := (hmem i).1 List.mem_cons_self
    have hrdy : i ∈ Region.ready .any ops listed := by
     refine mem_ready.2 ⟨?_, ops[i], Array.getElem?_eq_getElem hlt, fun e he hb => ?_⟩
     ·have : i < listed.size := by omega
      simp [this] at h0 ⊢; exact h0
     ·have hlt' := ok.back i _ (Array.getElem?_eq_getElem hlt) e he hb
      cases hl : listed.getD e.on false with
      | true => rfl
      | false =>
       have hin := (hmem e.on).2 ⟨by omega, hl⟩
       rcases List.mem_cons.1 hin with heq | hin
       ·omega
       ·have := (List.pairwise_cons.1 hpw).1 _ hin; omega
    rw [hr] at hrdy; cases hrdy
  ·obtain ⟨h0, o, ho, hdeps⟩ := mem_ready.1 hi
   have hlt : i < ops.size := (Array.getElem?_eq_some_iff.1 ho).1
   have hil : i < listed.size := by omega
   have h0' : listed.getD i false = false := by simp [hil] at h0 ⊢; exact h0
   have hin := (hmem i).2 ⟨hlt, h0'⟩
   obtain ⟨pre, post, rfl⟩ := List.append_of_mem hin
   have hpre : ∀ j ∈ pre, j < i := fun j hj => (List.pairwise_append.1 hpw).2.2 j hj i List.mem_cons_self
   refine zcE (TI_mono (fun a w h => ?_) (bubble ok ho pre post (fun j hj => ⟨hpre j hj, ?_⟩) a w h))
   ·refine ih (pre ++ post) _ a w (by simp at hlen ⊢; omega) (by simp [hsz]) ?_ ?_ ?_ h
    ·intro k p hk hl e he hb
     by_cases hki : k = i
     ·subst hki
      obtain rfl : p = o := Option.some.inj (hk.symm.trans ho)
      exact getD_set_true (hdeps e he hb)
     ·rw [getD_set_ne false (fun h => hki h.symm)] at hl
      exact getD_set_true (hcl k p hk hl e he hb)
    ·exact hpw.sublist (List.Sublist.append_left (List.sublist_cons_self _ _) _)
    ·intro j
     have hne : j ∈ pre ++ post → j ≠ i := fun hj e => by
      subst e
      rcases List.mem_append.1 hj with hj | hj
      ·have := hpre _ hj; omega
      ·have := (List.pairwise_cons.1 (List.pairwise_append.1 hpw).2.1).1 _ hj; omega
     constructor
     ·intro hj
      have hj' : j ∈ pre ++ i :: post := by
       rcases List.mem_append.1 hj with hj | hj
       ·exact List.mem_append_left _ hj
       ·exact List.mem_append_right _ (List.mem_cons_of_mem _ hj)
      obtain ⟨k1, k2⟩ := (hmem j).1 hj'
      exact ⟨k1, by rw [getD_set_ne false (fun h => hne hj h.symm)]; exact k2⟩
     ·rintro ⟨k1, k2⟩
      have hji : j ≠ i := fun e => by subst e; simp [hil] at k2
      rw [getD_set_ne false (fun h => hji h.symm)] at k2
      have := (hmem j).2 ⟨k1, k2⟩
      rcases List.mem_append.1 this with hj | hj
      ·exact List.mem_append_left _ hj
      ·rcases List.mem_cons.1 hj with rfl | hj
       ·exact absurd rfl hji
       ·exact List.mem_append_right _ hj
   ·cases hm : (m.getD i 0).testBit j with
    | false => rfl
    | true =>
     have hl := zht ok hcl i i o (Nat.le_refl _) ho hdeps j (hpre j hj) hm
     have := ((hmem j).1 (List.mem_append_left _ hj)).2
     rw [hl] at this; cases this
theorem zei {Q : Act → World → Prop} (l : List Oper) : ∀ k, (∀ j, l[j]? = ops[k + j]?) → wpI P ops Q (List.range' k l.length) = wpT P ops Q l := by
 induction l with
 | nil => intro k _; rfl
 | cons o l ih =>
  intro k h
  have h0 : ops[k]? = some o := by simpa using (h 0).symm
  have ih' := ih (k + 1) (fun j => by have := h (j + 1); simpa [Nat.add_assoc, Nat.add_comm 1 j] using this)
  funext a w
  simp only [List.length_cons, List.range'_succ, wpI, TI, h0, wpT, ih']
theorem zdQ {Q : Exit → Act → World → Prop} {id : Nat} {l : List Oper} {a : Act} {w : World} (hm : P.follows .mixedOrders = true) (hB : textB P l.toArray = true)
  (h : wpT P l.toArray (fun a w => Q .normal a w) l a w.drew) : (Code.region id l.toArray true).wpX P Q a w := by
 refine zaO hm ?_
 have ok := ziO hB
 have hz : ∀ j, (Array.replicate l.toArray.size false).getD j false = false := fun j => by
  simp only [Array.getD_eq_getD_getElem?, Array.getElem?_replicate]; split <;> rfl
 refine anyOrder ok _ (List.range l.toArray.size) _ a _ (by simp) (by simp) ?_ ?_ ?_ ?_
 ·intro i o _ hl; rw [hz] at hl; cases hl
 ·exact List.pairwise_lt_range
 ·intro j; rw [hz]; simp
 ·have := zei (P := P) (ops := l.toArray) (Q := fun a w => Q .normal a w) l 0 (by simp)
  rw [show List.range l.toArray.size = List.range' 0 l.length from by simp [List.range_eq_range']]
  rw [this]; exact h
end
end Go.Pw
