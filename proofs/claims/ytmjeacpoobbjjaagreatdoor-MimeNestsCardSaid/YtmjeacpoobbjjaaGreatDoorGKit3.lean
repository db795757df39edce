/- Helper lemmas that the proved statement rests on; no conditions of their own. -/
import Derived.Test.YtmjeacpoobbjjaaGreatDoorGKitX
set_option linter.unusedVariables false
namespace Go.Pw
open Go
structure Kp (w w' : World) (c : Nat → Prop) : Prop where
 os : w'.os = w.os
 tape : w'.tape = w.tape
 output : w'.output = w.output
 size : w.heap.size ≤ w'.heap.size
 block : ∀ k, k < w.heap.size → ¬ c k → w'.heap[k]? = w.heap[k]?
def n_ : Nat → Prop := fun _ => False
def one_ (b : Nat) : Nat → Prop := fun k => k = b
theorem Kp.refl (w : World) (c : Nat → Prop) : Kp w w c := ⟨rfl, rfl, rfl, Nat.le_refl _, fun _ _ _ => rfl⟩
theorem Kp.trans {a b d : World} {c c' : Nat → Prop} (h : Kp a b c) (k : Kp b d c') (hc : ∀ i, i < a.heap.size → c' i → c i) : Kp a d c :=
 ⟨k.os.trans h.os, k.tape.trans h.tape, k.output.trans h.output, Nat.le_trans h.size k.size, fun i hi hn =>
  (k.block i (Nat.lt_of_lt_of_le hi h.size) (fun h' => hn (hc i hi h'))).trans (h.block i hi hn)⟩
theorem Kp.trans' {a b d : World} {c : Nat → Prop} (h : Kp a b c) (k : Kp b d c) : Kp a d c := h.trans k fun _ _ h => h
theorem Kp.trans0 {a b d : World} {c : Nat → Prop} (h : Kp a b c) (k : Kp b d n_) : Kp a d c := h.trans k fun _ _ h => h.elim
theorem Kp.mono {a b : World} {c c' : Nat → Prop} (h : Kp a b c) (hc : ∀ i, i < a.heap.size → c i → c' i) : Kp a b c' :=
 ⟨h.os, h.tape, h.output, h.size, fun i hi hn => h.block i hi fun h' => hn (hc i hi h')⟩
theorem Kp.of_none {a b : World} {c : Nat → Prop} (h : Kp a b n_) : Kp a b c := h.mono fun _ _ h => h.elim
theorem Kp.drew {a w : World} {c : Nat → Prop} (h : Kp a w c) : Kp a w.drew c := ⟨h.os, h.tape, h.output, h.size, h.block⟩
theorem Kp.drewN {a w : World} {c : Nat → Prop} (h : Kp a w c) (n : Nat) : Kp a (w.drewN n) c := ⟨h.os, h.tape, h.output, h.size, h.block⟩
theorem Kp.alloc {a w : World} {c : Nat → Prop} (h : Kp a w c) (o : Obj) : Kp a (w.alloc o) c :=
 ⟨h.os, h.tape, h.output, by have := h.size; simp; omega, fun k hk hn => by
  rw [← h.block k hk hn]; exact RowKit.Below.heap_alloc _ _ _ (Nat.lt_of_lt_of_le hk h.size)⟩
theorem Kp.setCell {a w : World} {c : Nat → Prop} (h : Kp a w c) {p : Addr} (hp : c p.block ∨ a.heap.size ≤ p.block) (v : Value) : Kp a (w.setCell p v) c :=
 ⟨h.os, h.tape, h.output, by have := h.size; simp; omega, fun k hk hn => by
  rw [← h.block k hk hn]
  exact RowKit.Below.heap_setCell _ _ _ _ (fun e => by rcases hp with hp | hp; exact hn (e ▸ hp); omega)⟩
theorem Kp.below {w w' : World} (h : Kp w w' n_) : RowKit.Below w.heap.size w w' := ⟨h.os, h.tape, h.output, h.size, fun k hk => h.block k hk id⟩
theorem Kp.of_below {w w' : World} {c : Nat → Prop} (h : RowKit.Below w.heap.size w w') : Kp w w' c := ⟨h.os, h.tape, h.output, h.size, fun k hk _ => h.block k hk⟩
theorem Kp.cell {w w' : World} {c : Nat → Prop} (h : Kp w w' c) {p : Addr} (hp : p.block < w.heap.size) (hc : ¬ c p.block) : w'.cell? p = w.cell? p := World.cell?_of_block (w := w) (h.block _ hp hc)
theorem Kp.frozen {w w' : World} {c : Nat → Prop} (h : Kp w w' c) {p : Addr} (hp : p.block < w.heap.size) (hc : ¬ c p.block) : w'.frozen? p = w.frozen? p := World.frozen?_of_block (w := w) (h.block _ hp hc)
theorem Kp.shape {w w' : World} {c : Nat → Prop} (h : Kp w w' c) {b : Nat} (hp : b < w.heap.size) (hc : ¬ c b) : w'.shape? b = w.shape? b := by
 unfold World.shape?; rw [h.block _ hp hc]
theorem zgT {w : World} {b : Nat} {x : TypeId × Nat} (h : w.shape? b = some x) : b < w.heap.size := by
 unfold World.shape? at h
 by_cases hb : b < w.heap.size
 ·exact hb
 ·rw [Array.getElem?_eq_none (by omega)] at h; cases h
theorem zaU {w : World} {p : Addr} {v : Value} (h : w.cell? p = some v) : p.block < w.heap.size := by
  unfold World.cell? at h
  by_cases hb : p.block < w.heap.size
  ·exact hb
  ·rw [Array.getElem?_eq_none (by omega)] at h; cases h
theorem zgF {w : World} {p : Addr} {u v : Value} (h : w.cell? p = some v) : (w.setCell p u).cell? p = some u := World.cell?_setCell_same w p u h
def Ints (T : TypeId) (w : World) (v : Value) (zs : List Int) : Prop :=
 (v = .slice none 0 0 ∧ zs = []) ∨
 ∃ kb ko cap n, v = .slice (some ⟨kb, ko, none⟩) zs.length cap ∧ w.shape? kb = some (T, n) ∧ zs.length ≤ 9223372036854775807 ∧
  ∀ i, i < zs.length → w.cell? ⟨kb, ko + i, none⟩ = some (.int .i64 (zs.getD i 0))
theorem Ints.keep {T : TypeId} {w w' : World} {c : Nat → Prop} {v : Value} {zs : List Int} (h : Ints T w v zs) (k : Kp w w' c) (hc : ∀ b n, w.shape? b = some (T, n) → ¬ c b) : Ints T w' v zs := by
 rcases h with h | ⟨kb, ko, cap, n, rfl, hs, hl, hcell⟩
 ·exact .inl h
 ·exact .inr ⟨kb, ko, cap, n, rfl, by rw [k.shape (zgT hs) (hc _ _ hs)]; exact hs, hl, fun i hi => by rw [k.cell (zgT hs) (hc _ _ hs)]; exact hcell i hi⟩
set_option linter.unusedSectionVars false
def floats (P : Program) (hs : Option Tmp → Bool) (o : Oper) : Bool := kindOf P o == .pure || (kindOf P o == .read && hs o.dst)
def okH (P : Program) (S : World → Prop) (ρ : Operand → Value) (o : Oper) : Prop :=
 match o.op with
 | .load t x => ∃ (a : Addr) (v : Value), ρ x = .pointer (some a) ∧ ∀ w, S w → (loadVar t a).run P w = .ok v w
 | _ => calmOk ρ o = true
theorem zcU {P : Program} {S : World → Prop} {ρ : Operand → Value} {o : Oper} {t : TypeId} {x : Operand} (ho : o.op = .load t x) : okH P S ρ o ↔ ∃ (a : Addr) (v : Value), ρ x = .pointer (some a) ∧ ∀ w, S w → (loadVar t a).run P w = .ok v w := by
 unfold okH; rw [ho]
theorem zde {P : Program} {o : Oper} (hk : kindOf P o = .read) : ∃ t x, o.op = .load t x := by
 obtain ⟨dst, op, type, pos, after, guard⟩ := o
 cases op <;> simp only [kindOf, reduceCtorEq] at hk
 case load t a => exact ⟨t, a, rfl⟩
 case fieldAddr s x f => split at hk <;> cases hk
 case binOp b t x y yt => cases b <;> simp only [reduceCtorEq] at hk <;> (split at hk <;> cases hk)
 case convert s d x => split at hk <;> cases hk
 case call c =>
  obtain ⟨callee, args, ats⟩ := c
  cases callee with
  | value f => cases hk
  | invoke r m => cases hk
  | builtin b => cases b <;> simp only [reduceCtorEq] at hk <;> (split at hk <;> cases hk)
theorem zco {P : Program} {S : World → Prop} {ρ : Operand → Value} {o : Oper} (hk : kindOf P o = .pure) : okH P S ρ o ↔ calmOk ρ o = true := by
 unfold okH
 split
 ·rename_i t x h; obtain ⟨dst, op, type, pos, after, guard⟩ := o; subst h; simp [kindOf] at hk
 ·exact Iff.rfl
theorem floats_spec {P : Program} {hs : Option Tmp → Bool} {o : Oper} (h : floats P hs o = true) : kindOf P o = .pure ∨ kindOf P o = .read := by
 simp only [floats, Bool.or_eq_true, Bool.and_eq_true, beq_iff_eq] at h
 rcases h with h | ⟨h, _⟩ <;> simp [h]
theorem zep {P : Program} {ρ : Operand → Value} {o : Oper} {t : TypeId} {x : Operand} {a : Addr} {v : Value} {w : World} (ho : o.op = .load t x) (hx : ρ x = .pointer (some a)) (h : (loadVar t a).run P w = .ok v w) :
  (execOp ρ o).run P w = .ok (.value v) w := by
 obtain ⟨dst, op, type, pos, after, guard⟩ := o
 subst ho
 show (do pure (Next.value (← Instr.loadAt t (ρ x))) : Sem Next).run P w = _
 rw [hx]
 simp [Instr.loadAt, Instr.sureAddr, h]
section
variable {P : Program} {ops : Array Oper} {S : World → Prop} {hs : Option Tmp → Bool}
def T1h (P : Program) (S : World → Prop) (hs : Option Tmp → Bool) (ops : Array Oper) (o : Oper) (K : Act → World → Prop) (a : Act) (w : World) : Prop :=
 if Region.wanted o (yielded ops a.tmps) = true then (floats P hs o = true → okH P S a.eval o) ∧ o.wpN P a w (fun a w => S w ∧ K a w)
 else K (a.put o.dst undef) w
def wpTh (P : Program) (S : World → Prop) (hs : Option Tmp → Bool) (ops : Array Oper) (Q : Act → World → Prop) : List Oper → Act → World → Prop
 | [], a, w => Q a w
 | o :: r, a, w => T1h P S hs ops o (wpTh P S hs ops Q r) a w
def TIh (P : Program) (S : World → Prop) (hs : Option Tmp → Bool) (ops : Array Oper) (i : Nat) (K : Act → World → Prop) (a : Act) (w : World) : Prop :=
 match ops[i]? with
 | none => K a w
 | some o => T1h P S hs ops o K a w
def wpIh (P : Program) (S : World → Prop) (hs : Option Tmp → Bool) (ops : Array Oper) (Q : Act → World → Prop) : List Nat → Act → World → Prop
 | [], a, w => Q a w
 | i :: r, a, w => TIh P S hs ops i (wpIh P S hs ops Q r) a w
theorem T1h_mono {o : Oper} {K K' : Act → World → Prop} {a : Act} {w : World} (hw0 : S w) (h : ∀ a w, S w → K a w → K' a w) (hh : T1h P S hs ops o K a w) : T1h P S hs ops o K' a w := by
 unfold T1h at *
 split
 ·rename_i hw; rw [if_pos hw] at hh; exact ⟨hh.1, Oper.wpN_mono (fun a w hk => ⟨hk.1, h a w hk.1 hk.2⟩) hh.2⟩
 ·rename_i hw; rw [if_neg hw] at hh; exact h _ _ hw0 hh
theorem TIh_mono {i : Nat} {K K' : Act → World → Prop} {a : Act} {w : World} (hw0 : S w) (h : ∀ a w, S w → K a w → K' a w) (hh : TIh P S hs ops i K a w) : TIh P S hs ops i K' a w := by
 unfold TIh at *
 split
 ·rename_i ho; simp only [ho] at hh; exact h _ _ hw0 hh
 ·rename_i o ho; simp only [ho] at hh; exact T1h_mono hw0 h hh
theorem zbt {i : Nat} {K : Act → World → Prop} {a : Act} {w : World} (hh : TIh P S hs ops i K a w) (hw0 : S w) : wpOpX P ops i (fun a w => S w ∧ K a w) a w := by
 unfold TIh at hh; unfold wpOpX
 split
 ·rename_i ho; simp only [ho] at hh; exact ⟨hw0, hh⟩
 ·rename_i o ho
  simp only [ho] at hh
  unfold T1h at hh
  split
  ·rename_i hw; rw [if_pos hw] at hh; exact hh.2
  ·rename_i hw; rw [if_neg hw] at hh; exact ⟨hw0, hh⟩
theorem zdv {o : Oper} (hf : floats P hs o = true) (hsel : NoSel o) (a : Act) (dst : Option Tmp) (v : Value) (h : ∀ d, dst = some d → d ∉ o.looksAt ops) :
  okH P S (a.put dst v).eval o ↔ okH P S a.eval o := by
 rcases floats_spec hf with hk | hk
 ·rw [zco hk, zco hk, zbp hk a dst v h]
 ·obtain ⟨t, x, ho⟩ := zde hk
  rw [zcU ho, zcU ho]
  rw [Act.eval_put fun d hd hxd => h d hd (by
   subst hxd
   refine List.mem_append_left _ (List.mem_filterMap.2 ⟨.tmp d, ?_, rfl⟩)
   rw [ho]; simp [Op.operands])]
def YieldsS (P : Program) (S : World → Prop) (ops : Array Oper) (o : Oper) (v : Value) (a : Act) : Prop :=
 (Region.wanted o (yielded ops a.tmps) = true ∧ okH P S a.eval o ∧ ∀ w, S w → (execOp a.eval o).run P w = .ok (.value v) w) ∨
 (Region.wanted o (yielded ops a.tmps) = false ∧ v = undef)
theorem YieldsS.put_iff {o : Oper} {v : Value} {a : Act} (hk : floats P hs o = true) (hsel : NoSel o) (dst : Option Tmp) (u : Value) (h : ∀ d, dst = some d → d ∉ o.looksAt ops) :
  YieldsS P S ops o v (a.put dst u) ↔ YieldsS P S ops o v a := by
 unfold YieldsS
 rw [execOp_put o hsel a dst u h, wanted_put o a dst u h, zdv hk hsel a dst u h]
theorem YieldsS.defers {o : Oper} {v : Value} {a : Act} (ds : List Deferred) (hy : YieldsS P S ops o v a) : YieldsS P S ops o v { a with defers := ds } := hy
theorem YieldsS.uniq {o : Oper} {u v : Value} {a : Act} {w : World} (hw : S w) (h : YieldsS P S ops o u a) (k : YieldsS P S ops o v a) : u = v := by
 rcases h with ⟨h1, _, h3⟩ | ⟨h1, rfl⟩ <;> rcases k with ⟨k1, _, k3⟩ | ⟨k1, rfl⟩
 ·have := (h3 w hw).symm.trans (k3 w hw); simpa using this
 ·rw [h1] at k1; cases k1
 ·rw [h1] at k1; cases k1
 ·rfl
theorem YieldsS.t1 {o : Oper} {v : Value} {a : Act} {K : Act → World → Prop} {w : World} (hw : S w) (hy : YieldsS P S ops o v a) (h : K (a.put o.dst v) w) : T1h P S hs ops o K a w := by
 unfold T1h
 rcases hy with ⟨h1, h2, h3⟩ | ⟨h1, rfl⟩
 ·rw [if_pos h1]; refine ⟨fun _ => h2, ?_⟩; unfold Oper.wpN; rw [h3 w hw]; exact ⟨hw, h⟩
 ·rw [if_neg (by simp [h1])]; exact h
theorem zcm {o : Oper} {a : Act} {K : Act → World → Prop} {w : World} (hw0 : S w) (hf : floats P hs o = true) (h : T1h P S hs ops o K a w) : ∃ v, YieldsS P S ops o v a ∧ K (a.put o.dst v) w := by
 unfold T1h at h
 split at h
 ·rename_i hw
  obtain ⟨hc, h⟩ := h
  have hok := hc hf
  rcases floats_spec hf with hk | hk
  ·have hcv := zdd (ρ := a.eval) hk ((zco hk).1 hok)
   unfold Oper.wpN at h
   cases hr : (execOp a.eval o).run P w with
   | ok n w' =>
    obtain ⟨v, rfl, rfl, k⟩ := hcv _ _ _ hr
    rw [hr] at h
    exact ⟨v, .inl ⟨hw, hok, fun w _ => k w⟩, h.2⟩
   | halt x w' =>
    rw [hr] at h
    exact h.elim
  ·obtain ⟨t, x, ho⟩ := zde hk
   obtain ⟨p, v, hx, hl⟩ := (zcU ho).1 hok
   have hr := fun w hw => zep (ρ := a.eval) ho hx (hl w hw)
   unfold Oper.wpN at h
   rw [hr w hw0] at h
   exact ⟨v, .inl ⟨hw, hok, hr⟩, h.2⟩
 ·rename_i hw
  exact ⟨undef, .inr ⟨by simpa using hw, rfl⟩, h⟩
theorem zkX {x y : Oper} {K : Act → World → Prop} {a : Act} {w : World} (hw0 : S w) (hap : x.apart ops y = true) (hsx : NoSel x) (hsy : NoSel y) (hk : floats P hs x = true)
  (h : T1h P S hs ops x (T1h P S hs ops y K) a w) : T1h P S hs ops y (T1h P S hs ops x K) a w := by
 obtain ⟨h1, h2, h3⟩ := Oper.apart_spec hap
 obtain ⟨v, hy, h⟩ := zcm hw0 hk h
 have fin : ∀ (a : Act) (u : Value) (w' : World), YieldsS P S ops x v a → S w' ∧ K ((a.put y.dst u).put x.dst v) w' → S w' ∧ T1h P S hs ops x K (a.put y.dst u) w' :=
  fun a u w' hy hK => ⟨hK.1, ((YieldsS.put_iff hk hsx y.dst u h3).2 hy).t1 hK.1 hK.2⟩
 unfold T1h at h ⊢
 rw [wanted_put y a x.dst v h1] at h
 split
 ·rename_i hw
  rw [if_pos hw] at h
  obtain ⟨hc, h⟩ := h
  refine ⟨fun hky => (zdv hky hsy a x.dst v h1).1 (hc hky), ?_⟩
  unfold Oper.wpN at *
  rw [execOp_put y hsy a x.dst v h1] at h
  generalize (execOp a.eval y).run P w = r at *
  cases r with
  | ok n w' =>
   cases n <;> simp only [upN] at h ⊢
   case value u => exact fin a u w' hy (by rw [← Act.put_comm a v u h2]; exact h)
   case skip => exact fin a _ w' hy (by rw [← Act.put_comm a v undef h2]; exact h)
   case enter f args =>
    refine Calls.mono h fun e w'' he => ?_
    cases e with
    | returned u => exact fin a u w'' hy (by rw [← Act.put_comm a v u h2]; exact he)
    | panicked c => exact he
    | outgrown => exact he
   case round l f tmps assign body =>
    refine RoundIn.mono h fun e w'' he => ?_
    cases e with
    | returned u => exact fin a u w'' hy (by rw [← Act.put_comm a v u h2]; exact he)
    | panicked c => exact he
    | outgrown => exact he
   case row row args => exact Rows.mono h fun u w'' he => fin a u w'' hy (by rw [← Act.put_comm a v u h2]; exact he)
  | halt q w' => exact h.elim
 ·rename_i hw
  rw [if_neg hw] at h
  exact (fin a _ w hy ⟨hw0, by rw [← Act.put_comm a v undef h2]; exact h⟩).2
theorem zlx {x y : Oper} {K : Act → World → Prop} {a : Act} {w : World} (hw0 : S w) (hap : x.apart ops y = true) (hsx : NoSel x) (hsy : NoSel y) (hk : floats P hs y = true)
  (h : T1h P S hs ops x (T1h P S hs ops y K) a w) : T1h P S hs ops y (T1h P S hs ops x K) a w := by
 obtain ⟨h1, h2, h3⟩ := Oper.apart_spec hap
 have back : ∀ (a : Act) (u : Value) (w' : World), S w' ∧ T1h P S hs ops y K (a.put x.dst u) w' → ∃ v, YieldsS P S ops y v a ∧ S w' ∧ K ((a.put x.dst u).put y.dst v) w' := fun a u w' h => by
  obtain ⟨v, hy, hK⟩ := zcm h.1 hk h.2
  exact ⟨v, (YieldsS.put_iff hk hsy x.dst u h1).1 hy, h.1, hK⟩
 have key : ∃ v, YieldsS P S ops y v a := by
  unfold T1h at h
  split at h
  ·obtain ⟨_, h⟩ := h
   unfold Oper.wpN at h
   generalize (execOp a.eval x).run P w = r at *
   cases r with
   | ok n w' =>
    cases n <;> simp only [upN] at h
    case value u => obtain ⟨v, hy, _⟩ := back a u w' h; exact ⟨v, hy⟩
    case skip => obtain ⟨v, hy, _⟩ := back a _ w' h; exact ⟨v, hy⟩
    case enter f args =>
     obtain ⟨e, w'', fr, hR, _⟩ := h []
     cases e with
     | returned u => obtain ⟨v, hy, _⟩ := back a u w'' hR; exact ⟨v, hy⟩
     | panicked c => exact hR.elim
     | outgrown => exact hR.elim
    case round l f tmps assign body =>
     obtain ⟨e, w'', hR, _⟩ := h.2 default [] (room_wide _)
     cases e with
     | returned u => obtain ⟨v, hy, _⟩ := back a u w'' hR; exact ⟨v, hy⟩
     | panicked c => exact hR.elim
     | outgrown => exact hR.elim
    case row row args =>
     obtain ⟨u, w'', hR, _⟩ := h default []
     obtain ⟨v, hy, _⟩ := back a u w'' hR; exact ⟨v, hy⟩
   | halt q w' => exact h.elim
  ·obtain ⟨v, hy, _⟩ := back a _ w ⟨hw0, h⟩; exact ⟨v, hy⟩
 obtain ⟨v, hy⟩ := key
 refine hy.t1 hw0 ?_
 have fwd : ∀ (a : Act) (u : Value) (w' : World), YieldsS P S ops y v a → S w' ∧ T1h P S hs ops y K (a.put x.dst u) w' → S w' ∧ K ((a.put y.dst v).put x.dst u) w' := fun a u w' hy h => by
  obtain ⟨v', hy', hS, hK⟩ := back a u w' h
  obtain rfl := hy'.uniq hS hy
  exact ⟨hS, by rw [← Act.put_comm a u v' h2]; exact hK⟩
 have hd : ∀ d, y.dst = some d → d ∉ x.looksAt ops := h3
 unfold T1h at h ⊢
 rw [wanted_put x a y.dst v hd]
 split
 ·rename_i hw
  rw [if_pos hw] at h
  obtain ⟨hc, h⟩ := h
  refine ⟨fun hkx => (zdv hkx hsx a y.dst v hd).2 (hc hkx), ?_⟩
  unfold Oper.wpN at *
  rw [execOp_put x hsx a y.dst v hd]
  generalize (execOp a.eval x).run P w = r at *
  cases r with
  | ok n w' =>
   cases n <;> simp only [upN] at h ⊢
   case value u => exact fwd a u w' hy h
   case skip => exact fwd a _ w' hy h
   case enter f args =>
    refine Calls.mono h fun e w'' he => ?_
    cases e with
    | returned u => exact fwd a u w'' hy he
    | panicked c => exact he
    | outgrown => exact he
   case round l f tmps assign body =>
    refine RoundIn.mono h fun e w'' he => ?_
    cases e with
    | returned u => exact fwd a u w'' hy he
    | panicked c => exact he
    | outgrown => exact he
   case row row args => exact Rows.mono h fun u w'' he => fwd a u w'' hy he
  | halt q w' => exact h.elim
 ·rename_i hw
  rw [if_neg hw] at h
  exact (fwd a _ w hy ⟨hw0, h⟩).2
theorem zbP {o : Oper} {a : Act} {K : Act → World → Prop} {w : World} (hw0 : S w) (hk : kindOf P o = .read) (h : T1h P S hs ops o K a w) : ∃ v, YieldsW P ops w o v a ∧ (Region.wanted o (yielded ops a.tmps) = true → floats P hs o = true → okH P S a.eval o) ∧ K (a.put o.dst v) w := by
 unfold T1h at h
 split at h
 ·rename_i hw
  obtain ⟨hc, h⟩ := h
  unfold Oper.wpN at h
  cases hr : (execOp a.eval o).run P w with
  | ok n w' =>
   obtain ⟨rfl, v, rfl⟩ := zer (ρ := a.eval) hk _ _ _ hr
   rw [hr] at h
   exact ⟨v, .inl ⟨hw, hr⟩, fun _ => hc, h.2⟩
  | halt x w' =>
   rw [hr] at h
   exact h.elim
 ·rename_i hw
  exact ⟨undef, .inr ⟨by simpa using hw, rfl⟩, fun h => (hw h).elim, h⟩
theorem YieldsW.t1h {o : Oper} {v : Value} {a : Act} {K : Act → World → Prop} {w : World} (hw0 : S w) (hy : YieldsW P ops w o v a) (hc : Region.wanted o (yielded ops a.tmps) = true → floats P hs o = true → okH P S a.eval o) (h : K (a.put o.dst v) w) : T1h P S hs ops o K a w := by
 unfold T1h
 rcases hy with ⟨h1, h3⟩ | ⟨h1, rfl⟩
 ·rw [if_pos h1]; refine ⟨hc h1, ?_⟩; unfold Oper.wpN; rw [h3]; exact ⟨hw0, h⟩
 ·rw [if_neg (by simp [h1])]; exact h
theorem zjW {x y : Oper} {K : Act → World → Prop} {a : Act} {w : World} (hw0 : S w) (hap : x.apart ops y = true) (hsx : NoSel x) (hsy : NoSel y) (hkx : kindOf P x = .read) (hky : kindOf P y = .read)
  (h : T1h P S hs ops x (T1h P S hs ops y K) a w) : T1h P S hs ops y (T1h P S hs ops x K) a w := by
 obtain ⟨h1, h2, h3⟩ := Oper.apart_spec hap
 obtain ⟨u, hx, cx, h⟩ := zbP hw0 hkx h
 obtain ⟨v, hy, cy, h⟩ := zbP hw0 hky h
 rw [YieldsW.put_iff hsy _ _ h1] at hy
 rw [wanted_put y a x.dst u h1] at cy
 refine hy.t1h hw0 (fun a1 a2 => (zdv a2 hsy a x.dst u h1).1 (cy a1 a2)) (((YieldsW.put_iff hsx _ _ h3).2 hx).t1h hw0 ?_ ?_)
 ·rw [wanted_put x a y.dst v h3]
  exact fun a1 a2 => (zdv a2 hsx a y.dst v h3).2 (cx a1 a2)
 ·rw [← Act.put_comm a u v h2]; exact h
def commH (P : Program) (hs : Option Tmp → Bool) (ops : Array Oper) (x y : Oper) : Bool :=
 x.apart ops y && (floats P hs x || floats P hs y || (kindOf P x == .read && kindOf P y == .read))
theorem swapH {x y : Oper} {K : Act → World → Prop} {a : Act} {w : World} (hw0 : S w) (hsx : NoSel x) (hsy : NoSel y) (hc : commH P hs ops x y = true)
  (h : T1h P S hs ops x (T1h P S hs ops y K) a w) : T1h P S hs ops y (T1h P S hs ops x K) a w := by
 simp only [commH, Bool.and_eq_true, Bool.or_eq_true, beq_iff_eq] at hc
 obtain ⟨hap, (hk | hk) | ⟨hk, hk'⟩⟩ := hc
 ·exact zkX hw0 hap hsx hsy hk h
 ·exact zlx hw0 hap hsx hsy hk h
 ·exact zjW hw0 hap hsx hsy hk hk' h
def textH (P : Program) (hs : Option Tmp → Bool) (ops : Array Oper) : Bool :=
 let m := Region.before ops
 (List.range ops.size).all fun i =>
  let o := ops.getD i default
  selB o && o.after.all (fun e => !Region.binds .any e || decide (e.on < i)) &&
  (List.range i).all fun j =>
   if (m.getD i 0).testBit j then o.after.any (fun e => Region.binds .any e && (e.on == j || (decide (j < e.on) && (m.getD e.on 0).testBit j)))
   else commH P hs ops (ops.getD j default) o
structure TextOkH (P : Program) (hs : Option Tmp → Bool) (ops : Array Oper) (m : Array Nat) : Prop where
 sel : ∀ (i : Nat) (o : Oper), ops[i]? = some o → NoSel o
 back : ∀ (i : Nat) (o : Oper), ops[i]? = some o → ∀ e ∈ o.after, Region.binds .any e = true → e.on < i
 dep : ∀ (i : Nat) (o : Oper), ops[i]? = some o → ∀ j, j < i → (m.getD i 0).testBit j = true → ∃ e ∈ o.after, Region.binds .any e = true ∧ (e.on = j ∨ (j < e.on ∧ (m.getD e.on 0).testBit j = true))
 comm : ∀ (i : Nat) (o : Oper), ops[i]? = some o → ∀ (j : Nat) (p : Oper), ops[j]? = some p → j < i → (m.getD i 0).testBit j = false → commH P hs ops p o = true
theorem zcB (h : textH P hs ops = true) : TextOkH P hs ops (Region.before ops) := by
 unfold textH at h
 simp only [List.all_eq_true, List.mem_range, Bool.and_eq_true] at h
 have lt : ∀ (i : Nat) (o : Oper), ops[i]? = some o → i < ops.size ∧ ops.getD i default = o := fun i o ho => by
  obtain ⟨hi, he⟩ := Array.getElem?_eq_some_iff.1 ho
  exact ⟨hi, by simp [hi, he]⟩
 refine ⟨fun i o ho => ?_, fun i o ho e he hb => ?_, fun i o ho j hj hm => ?_, fun i o ho j p hp hj hm => ?_⟩
 ·obtain ⟨hi, he⟩ := lt i o ho
  have := (h i hi).1.1
  rw [he] at this; exact zhp this
 ·obtain ⟨hi, he'⟩ := lt i o ho
  have := (h i hi).1.2
  rw [he'] at this
  have := (Array.all_eq_true_iff_forall_mem.1 this) e he
  simpa [hb] using this
 ·obtain ⟨hi, he'⟩ := lt i o ho
  have := (h i hi).2 j hj
  rw [he', if_pos hm] at this
  obtain ⟨e, he, hb⟩ := Array.any_eq_true'.1 this
  simp only [Bool.and_eq_true, Bool.or_eq_true, beq_iff_eq, decide_eq_true_eq] at hb
  exact ⟨e, he, hb.1, hb.2⟩
 ·obtain ⟨hi, he'⟩ := lt i o ho
  obtain ⟨_, hp'⟩ := lt j p hp
  have := (h i hi).2 j hj
  rw [he', hp', hm] at this
  simpa using this
theorem zbs {m : Array Nat} {listed : Array Bool} (ok : TextOkH P hs ops m) (hcl : Closed ops listed) : ∀ (n i : Nat) (o : Oper), i ≤ n → ops[i]? = some o →
  (∀ e ∈ o.after, Region.binds .any e = true → listed.getD e.on false = true) → ∀ j, j < i → (m.getD i 0).testBit j = true → listed.getD j false = true := by
 intro n
 induction n with
 | zero => intro i o hi _ _ j hj; omega
 | succ n ih =>
  intro i o hi ho hdeps j hj hm
  obtain ⟨e, he, hb, hor⟩ := ok.dep i o ho j hj hm
  have hlt := ok.back i o ho e he hb
  have hl := hdeps e he hb
  rcases hor with rfl | hor
  ·exact hl
  ·obtain ⟨o', ho'⟩ : ∃ o', ops[e.on]? = some o' := by
    obtain ⟨hi', _⟩ := Array.getElem?_eq_some_iff.1 ho
    exact ⟨ops[e.on], Array.getElem?_eq_getElem (by omega)⟩
   exact ih e.on o' (by omega) ho' (hcl e.on o' ho' hl) j hor.1 hor.2
theorem bubbleH {Q : Act → World → Prop} {m : Array Nat} (ok : TextOkH P hs ops m) {i : Nat} {o : Oper} (ho : ops[i]? = some o) : ∀ (pre post : List Nat),
  (∀ j ∈ pre, j < i ∧ (m.getD i 0).testBit j = false) → ∀ (a : Act) (w : World), S w → wpIh P S hs ops Q (pre ++ i :: post) a w → TIh P S hs ops i (wpIh P S hs ops Q (pre ++ post)) a w
 | [], post, _, a, w, hw0, h => h
 | j :: pre, post, hp, a, w, hw0, h => by
  have ih := bubbleH (Q := Q) ok ho pre post (fun k hk => hp k (List.mem_cons_of_mem _ hk))
  have h' : TIh P S hs ops j (TIh P S hs ops i (wpIh P S hs ops Q (pre ++ post))) a w := TIh_mono hw0 (fun a w hS => ih a w hS) h
  show TIh P S hs ops i (TIh P S hs ops j (wpIh P S hs ops Q (pre ++ post))) a w
  obtain ⟨hj, hm⟩ := hp j List.mem_cons_self
  unfold TIh at h' ⊢
  simp only [ho] at h' ⊢
  cases hpj : ops[j]? with
  | none => simp only [hpj] at h' ⊢; exact h'
  | some p =>
   simp only [hpj] at h' ⊢
   exact swapH hw0 (ok.sel j p hpj) (ok.sel i o ho) (ok.comm i o ho j p hpj hj hm) h'
theorem anyOrderH {Q : Exit → Act → World → Prop} {m : Array Nat} (ok : TextOkH P hs ops m) : ∀ (fuel : Nat) (L : List Nat) (listed : Array Bool) (a : Act) (w : World),
  L.length = fuel → listed.size = ops.size → Closed ops listed → L.Pairwise (· < ·) → (∀ j, j ∈ L ↔ j < ops.size ∧ listed.getD j false = false) →
  S w → wpIh P S hs ops (fun a w => S w → Q .normal a w) L a w → wpAnyX P .any ops (Q .normal) fuel listed a w := by
 intro fuel
 induction fuel with
 | zero =>
  intro L listed a w hlen hsz hcl hpw hmem hw0 h
  obtain rfl : L = [] := List.eq_nil_of_length_eq_zero hlen
  refine ⟨?_, h hw0⟩
  refine List.eq_nil_iff_forall_not_mem.2 fun i hi => ?_
  obtain ⟨h0, o, ho, _⟩ := mem_ready.1 hi
  have hlt : i < ops.size := (Array.getElem?_eq_some_iff.1 ho).1
  have h0' : listed.getD i false = false := by
   have : i < listed.size := by omega
   simp [this] at h0 ⊢; exact h0
  have := (hmem i).2 ⟨hlt, h0'⟩
  cases this
 | succ fuel ih =>
  intro L listed a w hlen hsz hcl hpw hmem hw0 h
  refine ⟨fun hr => ?_, fun i hi => ?_⟩
  ·cases L with
   | nil => cases hlen
   | cons i L =>
    exfalso
    obtain ⟨hlt, h0⟩ := (hmem i).1 List.mem_cons_self
    have hrdy : i ∈ Region.ready .any ops listed := by
     refine mem_ready.2 ⟨?_, ops[i], Array.getElem?_eq_getElem hlt, fun e he hb => ?_⟩
     ·have : i < listed.size := by omega
      simp [this] at h0 ⊢; exact h0
     ·have hlt' := ok.back i _ (Array.getElem?_eq_getElem hlt) e he hb
      cases hl : listed.getD e.on false with
      | true => rfl
      | false =>
       have hin := (hmem e.on).2 ⟨by omega, hl⟩
       rcases List.mem_cons.1 hin with heq | hin
       ·omega
       ·have := (List.pairwise_cons.1 hpw).1 _ hin; omega
    rw [hr] at hrdy; cases hrdy
  ·obtain ⟨h0, o, ho, hdeps⟩ := mem_ready.1 hi
   have hlt : i < ops.size := (Array.getElem?_eq_some_iff.1 ho).1
   have hil : i < listed.size := by omega
   have h0' : listed.getD i false = false := by simp [hil] at h0 ⊢; exact h0
   have hin := (hmem i).2 ⟨hlt, h0'⟩
   obtain ⟨pre, post, rfl⟩ := List.append_of_mem hin
   have hpre : ∀ j ∈ pre, j < i := fun j hj => (List.pairwise_append.1 hpw).2.2 j hj i List.mem_cons_self
   refine zbo (fun a w h => ?_) (zbt (bubbleH ok ho pre post (fun j hj => ⟨hpre j hj, ?_⟩) a w hw0 h) hw0)
   ·refine ih (pre ++ post) _ a w (by simp at hlen ⊢; omega) (by simp [hsz]) ?_ ?_ ?_ h.1 h.2
    ·intro k p hk hl e he hb
     by_cases hki : k = i
     ·subst hki
      obtain rfl : p = o := Option.some.inj (hk.symm.trans ho)
      exact getD_set_true (hdeps e he hb)
     ·rw [getD_set_ne false (fun h => hki h.symm)] at hl
      exact getD_set_true (hcl k p hk hl e he hb)
    ·exact hpw.sublist (List.Sublist.append_left (List.sublist_cons_self _ _) _)
    ·intro j
     have hne : j ∈ pre ++ post → j ≠ i := fun hj e => by
      subst e
      rcases List.mem_append.1 hj with hj | hj
      ·have := hpre _ hj; omega
      ·have := (List.pairwise_cons.1 (List.pairwise_append.1 hpw).2.1).1 _ hj; omega
     constructor
     ·intro hj
      have hj' : j ∈ pre ++ i :: post := by
       rcases List.mem_append.1 hj with hj | hj
       ·exact List.mem_append_left _ hj
       ·exact List.mem_append_right _ (List.mem_cons_of_mem _ hj)
      obtain ⟨k1, k2⟩ := (hmem j).1 hj'
      exact ⟨k1, by rw [getD_set_ne false (fun h => hne hj h.symm)]; exact k2⟩
     ·rintro ⟨k1, k2⟩
      have hji : j ≠ i := fun e => by subst e; simp [hil] at k2
      rw [getD_set_ne false (fun h => hji h.symm)] at k2
      have := (hmem j).2 ⟨k1, k2⟩
      rcases List.mem_append.1 this with hj | hj
      ·exact List.mem_append_left _ hj
      ·rcases List.mem_cons.1 hj with rfl | hj
       ·exact absurd rfl hji
       ·exact List.mem_append_right _ hj
   ·cases hm : (m.getD i 0).testBit j with
    | false => rfl
    | true =>
     have hl := zbs ok hcl i i o (Nat.le_refl _) ho hdeps j (hpre j hj) hm
     have := ((hmem j).1 (List.mem_append_left _ hj)).2
     rw [hl] at this; cases this
theorem zfW {Q : Act → World → Prop} (l : List Oper) : ∀ k, (∀ j, l[j]? = ops[k + j]?) → wpIh P S hs ops Q (List.range' k l.length) = wpTh P S hs ops Q l := by
 induction l with
 | nil => intro k _; rfl
 | cons o l ih =>
  intro k h
  have h0 : ops[k]? = some o := by simpa using (h 0).symm
  have ih' := ih (k + 1) (fun j => by have := h (j + 1); simpa [Nat.add_assoc, Nat.add_comm 1 j] using this)
  funext a w
  simp only [List.length_cons, List.range'_succ, wpIh, TIh, h0, wpTh, ih']
theorem zdP {Q : Exit → Act → World → Prop} {id : Nat} {l : List Oper} {a : Act} {w : World} (hm : P.follows .mixedOrders = true) (hs : Option Tmp → Bool) (S : World → Prop) (hw0 : S w.drew) (hB : textH P hs l.toArray = true)
  (h : wpTh P S hs l.toArray (fun a w => S w → Q .normal a w) l a w.drew) : (Code.region id l.toArray true).wpX P Q a w := by
 refine zaO hm ?_
 have ok := zcB hB
 have hz : ∀ j, (Array.replicate l.toArray.size false).getD j false = false := fun j => by
  simp only [Array.getD_eq_getD_getElem?, Array.getElem?_replicate]; split <;> rfl
 refine anyOrderH (S := S) ok _ (List.range l.toArray.size) _ a _ (by simp) (by simp) ?_ ?_ ?_ hw0 ?_
 ·intro i o _ hl; rw [hz] at hl; cases hl
 ·exact List.pairwise_lt_range
 ·intro j; rw [hz]; simp
 ·have := zfW (P := P) (S := S) (hs := hs) (ops := l.toArray) (Q := fun a w => S w → Q .normal a w) l 0 (by simp)
  rw [show List.range l.toArray.size = List.range' 0 l.length from by simp [List.range_eq_range']]
  rw [this]; exact h
end
section
variable {P : Program} {ops : Array Oper} {S : World → Prop} {hs : Option Tmp → Bool}
def other (P : Program) (hs : Option Tmp → Bool) (ops : Array Oper) (i : Nat) : Bool := match ops[i]? with | some o => !floats P hs o | none => false
end
end Go.Pw
