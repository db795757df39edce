/- Helper lemmas that the proved statement rests on; no conditions of their own. -/
import Derived.RangeFuncLeaves
import Derived.RangeFuncRecord
import Derived.Test.YtmjeacpoobbjjaaGreatDoorGKit3
import Derived.Test.YtmjeacpoobbjjaaGreatDoorGWc
set_option linter.unusedVariables false
namespace Go.Vc
open Go Go.Pw
set_option linter.unusedSimpArgs false
inductive It where
 | code (c : Code)
 | blk (id : Nat)
 | ops (all l : List Oper) (dr : Bool)
 | opsH (S : World → Prop) (hs : Option Tmp → Bool) (all l : List Oper)
inductive Stop where
 | op (nd : Need) (d : Option Tmp) (t : List It) (f : Fr)
 | br (b : Bool) (t1 t2 : List It) (f : Fr) (w : World)
 | grd (b : Bool) (yes no : List It) (d : Option Tmp) (f : Fr) (w : World)
 | draw (id : Nat) (ops : Array Oper) (t : List It) (f : Fr) (w : World)
 | inv (S : World → Prop) (t : List It) (f : Fr) (w : World)
 | opH (S : World → Prop) (nd : Need) (d : Option Tmp) (t : List It) (f : Fr)
 | held (S : World → Prop) (ty : TypeId) (a : Addr) (d : Option Tmp) (t : List It) (f : Fr) (w : World)
 | loop (c : Code) (t : List It) (f : Fr) (w : World)
 | range (g : Operand) (ps : Array Tmp) (assign body : Code) (t : List It) (f : Fr) (w : World)
 | other (c : Code) (t : List It) (f : Fr) (w : World)
 | done (e : Exit) (f : Fr) (w : World)
 | more (e : Exit) (t : List It) (f : Fr) (w : World)
 | bad
def Lift (n : Nat) (K : Fr → World → Prop) : Act → World → Prop := fun a w => ∃ g, Ok n g ∧ a = act n g ∧ K g w
def LiftE (n : Nat) (K : Exit → Fr → World → Prop) : Exit → Act → World → Prop := fun e a w => ∃ g, Ok n g ∧ a = act n g ∧ K e g w
def after (P : Program) (n : Nat) : List It → (Exit → Fr → World → Prop) → Exit → Fr → World → Prop
 | [], K, e, f, w => K e f w
 | .code c :: r, K, .normal, f, w => c.wpX P (LiftE n (after P n r K)) (act n f) w
 | .ops all l false :: r, K, .normal, f, w => wpLX P all.toArray (Lift n (after P n r K .normal)) l (act n f) w
 | .ops all l true :: r, K, .normal, f, w => wpT P all.toArray (Lift n (after P n r K .normal)) l (act n f) w
 | .opsH S hs all l :: r, K, .normal, f, w => S w → wpTh P S hs all.toArray (fun a w => S w → Lift n (after P n r K .normal) a w) l (act n f) w
 | .blk id :: r, K, .exit i, f, w => if i = id then after P n r K .normal f w else after P n r K (.exit i) f w
 | .blk _ :: r, K, e, f, w => after P n r K e f w
 | _ :: r, K, e, f, w => after P n r K e f w
structure Sat (P : Program) (n : Nat) (K : Exit → Fr → World → Prop) (e : Exit) (t : List It) (f : Fr) (w : World) : Prop where
 h : Ok n f → after P n t K e f w
structure Then (P : Program) (n : Nat) (K : Exit → Fr → World → Prop) (d : Option Tmp) (v : Value) (t : List It) (f : Fr) (w : World) : Prop where
 h : Ok n f → putOk n d = true ∧ after P n t K .normal (put' n f d v) w
structure Loop (P : Program) (n : Nat) (K : Exit → Fr → World → Prop) (c : Code) (t : List It) (f : Fr) (w : World) : Prop where
 h : Ok n f → (Code.loop c).wpX P (LiftE n (after P n t K)) (act n f) w
structure Other (P : Program) (n : Nat) (K : Exit → Fr → World → Prop) (c : Code) (t : List It) (f : Fr) (w : World) : Prop where
 h : Ok n f → c.wpX P (LiftE n (after P n t K)) (act n f) w
structure Range (P : Program) (n : Nat) (K : Exit → Fr → World → Prop) (g : Operand) (ps : Array Tmp) (assign body : Code) (t : List It) (f : Fr) (w : World) : Prop where
 h : Ok n f → (Code.rangeFunc g ps assign body).wpX P (LiftE n (after P n t K)) (act n f) w
structure Draw (P : Program) (n : Nat) (K : Exit → Fr → World → Prop) (id : Nat) (ops : Array Oper) (t : List It) (f : Fr) (w : World) : Prop where
 h : P.follows .mixedOrders = true → Ok n f → (Code.region id ops true).wpX P (LiftE n (after P n t K)) (act n f) w
structure Inv (p q : Prop) : Prop where
 s : p
 h : q
structure Held (P : Program) (S : World → Prop) (t : TypeId) (a : Addr) (K : Value → Prop) : Prop where
 h : ∃ v, (∀ w, S w → (loadVar t a).run P w = .ok v w) ∧ K v
def Stop.holds (P : Program) (n : Nat) (K : Exit → Fr → World → Prop) : Stop → Prop
 | .op nd d t f => nd.holds P fun v w => Then P n K d v t f w
 | .br b t1 t2 f w => Br b (Sat P n K .normal t1 f w) (Sat P n K .normal t2 f w)
 | .grd b yes no d f w => Br b (Sat P n K .normal yes f w) (Then P n K d undef no f w)
 | .draw id ops t f w => Draw P n K id ops t f w
 | .inv S t f w => Inv (S w) (Sat P n K .normal t f w)
 | .opH S nd d t f => nd.holds P fun v w => Inv (S w) (Then P n K d v t f w)
 | .held S ty a d t f w => Held P S ty a fun v => Then P n K d v t f w
 | .loop c t f w => Loop P n K c t f w
 | .range g ps as b t f w => Range P n K g ps as b t f w
 | .other c t f w => Other P n K c t f w
 | .done e f w => K e f w
 | .more e t f w => Sat P n K e t f w
 | .bad => False
inductive GV where
 | yes | no | ask (b : Bool) | bad
def guardV (all : List Oper) (f : Fr) (o : Oper) : GV :=
 match o.guard with
 | none => .yes
 | some (j, want) => (match all[j]? with
   | none => .no
   | some p => (match p.dst with
     | none => .no
     | some d => (match f.g d with
       | .bool b => (match want with | true => .ask b | false => .ask (!b))
       | .tuple _ => .no
       | _ => .bad)))
def drawOk (P : Program) (dr : Bool) (f : Fr) (o : Oper) : Bool :=
 match dr with
 | false => true
 | true => (match o.op with
   | .convert s _ _ => (match P.underlying s with | some (.int _) => calmOk (ev f) o | _ => true)
   | .binOp .eql t _ _ _ => (match P.underlying t with | some (.struct _) => true | _ => calmOk (ev f) o)
   | .binOp .neq t _ _ _ => (match P.underlying t with | some (.struct _) => true | _ => calmOk (ev f) o)
   | _ => calmOk (ev f) o)
theorem zgv {P : Program} {f : Fr} {o : Oper} (h : drawOk P true f o = true) (hk : kindOf P o = .pure) : calmOk (ev f) o = true := by
 obtain ⟨dst, op, type, pos, aft, guard⟩ := o
 unfold drawOk at h
 dsimp only at h
 split at h
 ·rename_i s d x
  simp only [kindOf] at hk
  split at hk
  ·rename_i hu; rw [hu] at h; exact h
  ·cases hk
 ·rename_i t x y yt
  simp only [kindOf] at hk
  split at hk
  ·cases hk
  ·rename_i hu; split at h
   ·rename_i hs; exact (hu _ hs).elim
   ·exact h
 ·rename_i t x y yt
  simp only [kindOf] at hk
  split at hk
  ·cases hk
  ·rename_i hu; split at h
   ·rename_i hs; exact (hu _ hs).elim
   ·exact h
 ·exact h
def opStep (P : Program) (n : Nat) (go : List It → Fr → World → Stop) (t : List It) (dr : Bool) (o : Oper) (f : Fr) (w : World) : Stop :=
 match drawOk P dr f o with
 | false => .bad
 | true => (match opRes P f w o with
   | .bad => .bad
   | .need nd => .op nd o.dst t f
   | .val v w' => force v fun v => (match o.dst with
     | none => go t f w'
     | some i => (match Nat.ble (i + 1) n with | true => go t (upd f i v) w' | false => .bad)))
def opStepH (P : Program) (n : Nat) (S : World → Prop) (hs : Option Tmp → Bool) (go : List It → Fr → World → Stop) (t : List It) (o : Oper) (f : Fr) (w : World) : Stop :=
 match floats P hs o with
 | false => (match opRes P f w o with
   | .bad => .bad
   | .need nd => .opH S nd o.dst t f
   | .val v w' => force v fun v => (match o.dst with
     | none => .inv S t f w'
     | some i => (match Nat.ble (i + 1) n with | true => .inv S t (upd f i v) w' | false => .bad)))
 | true => (match o.op with
   | .load ty x => (match ev f x with | .pointer (some a) => .held S ty a o.dst t f w | _ => .bad)
   | _ => opStep P n go t true o f w)
def run (P : Program) (n : Nat) : Nat → Exit → List It → Fr → World → Stop
 | 0, e, t, f, w => .more e t f w
 | k + 1, .normal, .code c :: r, f, w => (match c with
   | .skip => run P n k .normal r f w
   | .seq a b => run P n k .normal (.code a :: .code b :: r) f w
   | .block id c => run P n k .normal (.code c :: .blk id :: r) f w
   | .region id ops dr => (match dr with
     | false => run P n k .normal (.ops ops.toList ops.toList false :: r) f w
     | true => forceD f fun f => .draw id ops r f w)
   | .cond c a b => (match ev f c with | .bool t => .br t (.code a :: r) (.code b :: r) f w | _ => .bad)
   | .loop c => forceD f fun f => .loop c r f w
   | .rangeFunc g ps as b => forceD f fun f => .range g ps as b r f w
   | .exit id => run P n k (.exit id) r f w
   | .ret => run P n k .ret r f w
   | c => .other c r f w)
 | k + 1, .normal, .ops all l dr :: r, f, w => (match l with
   | [] => run P n k .normal r f w
   | o :: l => (match guardV all f o with
     | .bad => .bad
     | .yes => opStep P n (run P n k .normal) (.ops all l dr :: r) dr o f w
     | .no => (match o.dst with
       | none => run P n k .normal (.ops all l dr :: r) f w
       | some i => (match Nat.ble (i + 1) n with | true => run P n k .normal (.ops all l dr :: r) (upd f i undef) w | false => .bad))
     | .ask b => .grd b (.ops all ({ o with guard := none } :: l) dr :: r) (.ops all l dr :: r) o.dst f w))
 | k + 1, .normal, .opsH S hs all l :: r, f, w => (match l with
   | [] => run P n k .normal r f w
   | o :: l => (match guardV all f o with
     | .bad => .bad
     | .yes => opStepH P n S hs (run P n k .normal) (.opsH S hs all l :: r) o f w
     | .no => (match o.dst with
       | none => run P n k .normal (.opsH S hs all l :: r) f w
       | some i => (match Nat.ble (i + 1) n with | true => run P n k .normal (.opsH S hs all l :: r) (upd f i undef) w | false => .bad))
     | .ask b => .grd b (.opsH S hs all ({ o with guard := none } :: l) :: r) (.opsH S hs all l :: r) o.dst f w))
 | k + 1, .exit i, .blk id :: r, f, w => (match Nat.beq i id with | true => run P n k .normal r f w | false => run P n k (.exit i) r f w)
 | k + 1, .normal, .blk id :: r, f, w => run P n k .normal r f w
 | k + 1, e, _ :: r, f, w => run P n k e r f w
 | k + 1, e, [], f, w => .done e f w
section
variable {P : Program} {n : Nat} {K : Exit → Fr → World → Prop}
theorem zgU {all : List Oper} {f : Fr} {o : Oper} (hf : Ok n f) :
  match guardV all f o with
  | .yes => Region.wanted o (yielded all.toArray (frArr n f)) = true
  | .no => Region.wanted o (yielded all.toArray (frArr n f)) = false
  | .ask b => Region.wanted o (yielded all.toArray (frArr n f)) = b
  | .bad => True := by
 unfold guardV Region.wanted
 cases hg : o.guard with
 | none => rfl
 | some jw =>
  obtain ⟨j, want⟩ := jw
  dsimp only
  have hy : yielded all.toArray (frArr n f) j = match (all[j]?).bind (·.dst) with | some d => (match f.g d with | .bool b => some b | _ => none) | none => none := by
   unfold yielded
   rw [List.getElem?_toArray]
   cases hd : (all[j]?).bind (·.dst) with
   | none => rfl
   | some d =>
    simp only [Option.bind_some]
    by_cases hdn : d < n
    ·rw [zfz hdn]
     cases f.g d <;> rfl
    ·rw [zem (Nat.le_of_not_lt hdn), hf d (Nat.le_of_not_lt hdn)]; rfl
  rw [hy]
  cases hp : all[j]? with
  | none => rfl
  | some p =>
   cases hd : p.dst with
   | none => simp only [Option.bind_some, hd]; rfl
   | some d =>
    simp only [Option.bind_some, hd]
    cases hv : f.g d <;> try trivial
    rename_i b
    cases want <;> cases b <;> rfl
theorem zby {it : It} {r : List It} {e : Exit} {f : Fr} {w : World} (he : e ≠ .normal) (hb : ∀ id i, it = .blk id → e ≠ .exit i) (h : after P n r K e f w) : after P n (it :: r) K e f w := by
 cases it with
 | code c => cases e <;> first | exact (he rfl).elim | exact h
 | ops a l d => cases e <;> first | exact (he rfl).elim | (cases d <;> exact h)
 | opsH S hs a l => cases e <;> first | exact (he rfl).elim | exact h
 | blk id => cases e <;> first | exact (he rfl).elim | exact (hb id _ rfl rfl).elim | exact h
theorem zdX {go : List It → Fr → World → Stop} {t : List It} {dr : Bool} {o : Oper} {f : Fr} {w : World} (hf : Ok n f)
  (hgo : ∀ f w, Ok n f → (go t f w).holds P n K → after P n t K .normal f w)
  (h : (opStep P n go t dr o f w).holds P n K) :
  (dr = true → kindOf P o = .pure → calmOk (ev f) o = true) ∧ o.wpN P (act n f) w (fun a w' => ∃ g, Ok n g ∧ a = act n g ∧ after P n t K .normal g w') := by
 unfold opStep at h
 split at h
 ·exact h.elim
 ·rename_i hd
  refine ⟨fun e hk => by subst e; exact zgv hd hk, ?_⟩
  have key : ∀ (K' : Value → World → Prop), Good P f w o K' → (∀ v w', K' v w' → ∃ g, Ok n g ∧ (act n f).put o.dst v = act n g ∧ after P n t K .normal g w') →
    o.wpN P (act n f) w (fun a w' => ∃ g, Ok n g ∧ a = act n g ∧ after P n t K .normal g w') := fun K' hg hk =>
   Oper.wpN_mono (fun a w' ⟨v, ha, hkv⟩ => by obtain ⟨g, h1, h2, h3⟩ := hk v w' hkv; exact ⟨g, h1, by rw [ha, h2], h3⟩) (zjc hf hg)
  split at h
  ·exact h.elim
  ·rename_i nd hr
   refine key (fun v w' => Then P n K o.dst v t f w') (zeY (by rw [hr]; exact h)) fun v w' hk => ?_
   obtain ⟨hp, ha⟩ := hk.h hf
   obtain ⟨h1, h2⟩ := zbO v hf hp
   exact ⟨_, h1, h2, ha⟩
  ·rename_i v w' hr
   rw [zau] at h
   refine key (fun v' w'' => v' = v ∧ w'' = w') (zeY (by rw [hr]; exact ⟨rfl, rfl⟩)) fun v' w'' ⟨e1, e2⟩ => ?_
   subst e1; subst e2
   split at h
   ·rename_i hdst
    rw [hdst]; exact ⟨f, hf, rfl, hgo _ _ hf h⟩
   ·rename_i i hdst
    split at h
    ·rename_i hb
     obtain ⟨h1, h2⟩ := zbO (d := some i) v' hf hb
     rw [hdst]; exact ⟨_, h1, h2, hgo _ _ h1 h⟩
    ·exact h.elim
theorem zlG {all l : List Oper} {r : List It} {dr : Bool} {o : Oper} {f : Fr} {w : World} (hw : Region.wanted o (yielded all.toArray (frArr n f)) = true)
  (h : (dr = true → kindOf P o = .pure → calmOk (act n f).eval o = true) ∧ o.wpN P (act n f) w (fun a w' => ∃ g, Ok n g ∧ a = act n g ∧ after P n (.ops all l dr :: r) K .normal g w')) : after P n (.ops all (o :: l) dr :: r) K .normal f w := by
 cases dr with
 | false =>
  show wpLX P all.toArray _ (o :: l) (act n f) w
  unfold wpLX
  rw [show (act n f).tmps = frArr n f from rfl, if_pos hw]
  exact Oper.wpN_mono (fun a w' ⟨g, h1, h2, h3⟩ => by subst h2; exact h3) h.2
 | true =>
  show T1 P all.toArray o _ (act n f) w
  unfold T1
  rw [show (act n f).tmps = frArr n f from rfl, if_pos hw]
  exact ⟨fun hk => h.1 rfl hk, Oper.wpN_mono (fun a w' ⟨g, h1, h2, h3⟩ => by subst h2; exact h3) h.2⟩
theorem ziw {all l : List Oper} {r : List It} {dr : Bool} {o : Oper} {f : Fr} {w : World} (hf : Ok n f) (hw : Region.wanted o (yielded all.toArray (frArr n f)) = false)
  (hp : putOk n o.dst = true) (h : after P n (.ops all l dr :: r) K .normal (put' n f o.dst undef) w) : after P n (.ops all (o :: l) dr :: r) K .normal f w := by
 obtain ⟨h1, h2⟩ := zbO undef hf hp
 cases dr with
 | false =>
  show wpLX P all.toArray _ (o :: l) (act n f) w
  unfold wpLX
  rw [show (act n f).tmps = frArr n f from rfl, if_neg (by simp [hw]), h2]
  exact h
 | true =>
  show T1 P all.toArray o _ (act n f) w
  unfold T1
  rw [show (act n f).tmps = frArr n f from rfl, if_neg (by simp [hw]), h2]
  exact h
theorem zjz {all l : List Oper} {r : List It} {dr : Bool} {o : Oper} {f : Fr} {w : World} (hw : Region.wanted o (yielded all.toArray (frArr n f)) = true)
  (h : after P n (.ops all ({ o with guard := none } :: l) dr :: r) K .normal f w) : after P n (.ops all (o :: l) dr :: r) K .normal f w := by
 have hw' : Region.wanted { o with guard := none } (yielded all.toArray (frArr n f)) = true := rfl
 cases dr with
 | false =>
  have h : wpLX P all.toArray _ ({ o with guard := none } :: l) (act n f) w := h
  show wpLX P all.toArray _ (o :: l) (act n f) w
  unfold wpLX at h ⊢
  rw [show (act n f).tmps = frArr n f from rfl, if_pos hw'] at h
  rw [show (act n f).tmps = frArr n f from rfl, if_pos hw]
  exact h
 | true =>
  have h : T1 P all.toArray { o with guard := none } _ (act n f) w := h
  show T1 P all.toArray o _ (act n f) w
  unfold T1 at h ⊢
  rw [show (act n f).tmps = frArr n f from rfl, if_pos hw'] at h
  rw [show (act n f).tmps = frArr n f from rfl, if_pos hw]
  exact h
theorem calm_wp {S : World → Prop} {o : Oper} {a : Act} {w : World} {K : Act → World → Prop} (hw : S w) (hk : kindOf P o = .pure) (hc : calmOk a.eval o = true) (h : o.wpN P a w K) : o.wpN P a w (fun a w' => S w' ∧ K a w') := by
 have hcv := zdd (ρ := a.eval) hk hc
 unfold Oper.wpN at *
 cases hr : (execOp a.eval o).run P w with
 | ok m w' =>
  obtain ⟨v, rfl, rfl, k⟩ := hcv _ _ _ hr
  rw [hr] at h
  exact ⟨hw, h⟩
 | halt x w' =>
  rw [hr] at h
  exact h.elim
theorem zhH {S : World → Prop} {hs : Option Tmp → Bool} {go : List It → Fr → World → Stop} {all l : List Oper} {r : List It} {o : Oper} {f : Fr} {w : World} (hf : Ok n f) (hw : S w)
  (hgo : ∀ f w, Ok n f → (go (.opsH S hs all l :: r) f w).holds P n K → after P n (.opsH S hs all l :: r) K .normal f w)
  (h : (opStepH P n S hs go (.opsH S hs all l :: r) o f w).holds P n K) :
  (floats P hs o = true → okH P S (ev f) o) ∧ o.wpN P (act n f) w (fun a w' => S w' ∧ ∃ g, Ok n g ∧ a = act n g ∧ after P n (.opsH S hs all l :: r) K .normal g w') := by
 have key : ∀ (K' : Value → World → Prop), Good P f w o K' → (∀ v w', K' v w' → S w' ∧ ∃ g, Ok n g ∧ (act n f).put o.dst v = act n g ∧ after P n (.opsH S hs all l :: r) K .normal g w') →
    o.wpN P (act n f) w (fun a w' => S w' ∧ ∃ g, Ok n g ∧ a = act n g ∧ after P n (.opsH S hs all l :: r) K .normal g w') := fun K' hg hk =>
   Oper.wpN_mono (fun a w' ⟨v, ha, hkv⟩ => by obtain ⟨h0, g, h1, h2, h3⟩ := hk v w' hkv; exact ⟨h0, g, h1, by rw [ha, h2], h3⟩) (zjc hf hg)
 unfold opStepH at h
 split at h
 ·rename_i hfl
  refine ⟨fun e => (by rw [hfl] at e; cases e), ?_⟩
  split at h
  ·exact h.elim
  ·rename_i nd hr
   refine key (fun v w' => Inv (S w') (Then P n K o.dst v (.opsH S hs all l :: r) f w')) (zeY (by rw [hr]; exact h)) fun v w' hk => ?_
   obtain ⟨hp, ha⟩ := hk.h.h hf
   obtain ⟨h1, h2⟩ := zbO v hf hp
   exact ⟨hk.s, _, h1, h2, ha⟩
  ·rename_i v w' hr
   rw [zau] at h
   refine key (fun v' w'' => v' = v ∧ w'' = w') (zeY (by rw [hr]; exact ⟨rfl, rfl⟩)) fun v' w'' ⟨e1, e2⟩ => ?_
   subst e1; subst e2
   split at h
   ·rename_i hdst
    rw [hdst]; exact ⟨h.s, f, hf, rfl, h.h.h hf⟩
   ·rename_i i hdst
    split at h
    ·rename_i hb
     obtain ⟨h1, h2⟩ := zbO (d := some i) v' hf hb
     rw [hdst]; exact ⟨h.s, _, h1, h2, h.h.h h1⟩
    ·exact h.elim
 ·rename_i hfl
  split at h
  ·rename_i ty x hop
   split at h
   ·rename_i a hx
    obtain ⟨v, hl, hk⟩ := h.h
    refine ⟨fun _ => (zcU hop).2 ⟨a, v, hx, hl⟩, ?_⟩
    obtain ⟨hp, ha⟩ := hk.h hf
    obtain ⟨h1, h2⟩ := zbO v hf hp
    have hx' : (act n f).eval x = .pointer (some a) := by rw [zbe hf]; exact hx
    have hr := zep (ρ := (act n f).eval) hop hx' (hl w hw)
    unfold Oper.wpN
    rw [hr]
    exact ⟨hw, _, h1, h2, ha⟩
   ·exact h.elim
  ·rename_i hno
   have hk : kindOf P o = .pure := by
    rcases floats_spec hfl with hk | hk
    ·exact hk
    ·obtain ⟨t, x, ho⟩ := zde hk; exact (hno t x ho).elim
   have hstep : (calmOk (ev f) o = true) ∧ o.wpN P (act n f) w (fun a w' => ∃ g, Ok n g ∧ a = act n g ∧ after P n (.opsH S hs all l :: r) K .normal g w') := by
    have := zdX (t := .opsH S hs all l :: r) (dr := true) hf hgo h
    exact ⟨this.1 rfl hk, this.2⟩
   obtain ⟨h1, h2⟩ := hstep
   have hc : calmOk (act n f).eval o = true := by rw [zbe hf]; exact h1
   exact ⟨fun _ => (zco hk).2 (by exact h1), calm_wp hw hk hc h2⟩
theorem zkm {S : World → Prop} {hs : Option Tmp → Bool} {all l : List Oper} {r : List It} {o : Oper} {f : Fr} {w : World} (hw : Region.wanted o (yielded all.toArray (frArr n f)) = true)
  (h : S w → (floats P hs o = true → okH P S (act n f).eval o) ∧ o.wpN P (act n f) w (fun a w' => S w' ∧ ∃ g, Ok n g ∧ a = act n g ∧ after P n (.opsH S hs all l :: r) K .normal g w')) : after P n (.opsH S hs all (o :: l) :: r) K .normal f w := by
 intro hS
 show T1h P S hs all.toArray o _ (act n f) w
 unfold T1h
 rw [show (act n f).tmps = frArr n f from rfl, if_pos hw]
 exact ⟨(h hS).1, Oper.wpN_mono (fun a w' ⟨h0, g, h1, h2, h3⟩ => by subst h2; exact ⟨h0, h3 h0⟩) (h hS).2⟩
theorem zgy {S : World → Prop} {hs : Option Tmp → Bool} {all l : List Oper} {r : List It} {o : Oper} {f : Fr} {w : World} (hf : Ok n f) (hw : Region.wanted o (yielded all.toArray (frArr n f)) = false)
  (hp : putOk n o.dst = true) (h : after P n (.opsH S hs all l :: r) K .normal (put' n f o.dst undef) w) : after P n (.opsH S hs all (o :: l) :: r) K .normal f w := by
 obtain ⟨h1, h2⟩ := zbO undef hf hp
 intro hS
 show T1h P S hs all.toArray o _ (act n f) w
 unfold T1h
 rw [show (act n f).tmps = frArr n f from rfl, if_neg (by simp [hw]), h2]
 exact h hS
theorem ziG {S : World → Prop} {hs : Option Tmp → Bool} {all l : List Oper} {r : List It} {o : Oper} {f : Fr} {w : World} (hw : Region.wanted o (yielded all.toArray (frArr n f)) = true)
  (h : after P n (.opsH S hs all ({ o with guard := none } :: l) :: r) K .normal f w) : after P n (.opsH S hs all (o :: l) :: r) K .normal f w := by
 intro hS
 have h := h hS
 have hw' : Region.wanted { o with guard := none } (yielded all.toArray (frArr n f)) = true := rfl
 have h : T1h P S hs all.toArray { o with guard := none } _ (act n f) w := h
 show T1h P S hs all.toArray o _ (act n f) w
 unfold T1h at h ⊢
 rw [show (act n f).tmps = frArr n f from rfl, if_pos hw'] at h
 rw [show (act n f).tmps = frArr n f from rfl, if_pos hw]
 exact h
theorem zil {r : List It} {b : Code} {e : Exit} {a : Act} {w : World} (h : LiftE n (after P n (.code b :: r) K) e a w) : Exit.then (b.wpX P (LiftE n (after P n r K))) (LiftE n (after P n r K)) e a w := by
 obtain ⟨g, hg, rfl, hk⟩ := h
 cases e <;> first | exact hk | exact ⟨g, hg, rfl, hk⟩
theorem zip (hm : P.follows .mixedOrders = true) : ∀ (k : Nat) (e : Exit) (t : List It) (f : Fr) (w : World), Ok n f → (run P n k e t f w).holds P n K → after P n t K e f w := by
 intro k
 induction k with
 | zero => intro e t f w hf h; exact h.h hf
 | succ k ih =>
  intro e t f w hf h
  cases t with
  | nil => cases e <;> exact h
  | cons it r =>
   cases it with
   | code c =>
    by_cases he : e = .normal
    ·subst he
     cases c with
     | skip => exact zkp ⟨f, hf, rfl, ih _ _ _ _ hf h⟩
     | seq a b =>
      have h1 := ih _ _ _ _ hf h
      exact zlH (zeV h1 fun e a w he => zil he)
     | block id c =>
      have h1 := ih _ _ _ _ hf h
      refine ziA (zeV h1 fun e a w he => ?_)
      obtain ⟨g, hg, rfl, hk⟩ := he
      cases e with
      | exit i =>
       simp only [Exit.inBlock]
       by_cases hi : i = id
       ·rw [if_pos hi]; simp only [after, if_pos hi] at hk; exact ⟨g, hg, rfl, hk⟩
       ·rw [if_neg hi]; simp only [after, if_neg hi] at hk; exact ⟨g, hg, rfl, hk⟩
      | _ => exact ⟨g, hg, rfl, hk⟩
     | region id ops dr =>
      obtain ⟨l⟩ := ops
      cases dr with
      | false =>
       have h1 := ih _ _ _ _ hf h
       exact zdL h1
      | true =>
       simp only [run, zdw] at h
       exact Draw.h h hm hf
     | cond c a b =>
      simp only [run] at h
      split at h
      ·rename_i t ht
       have h : Br t (Sat P n K .normal (.code a :: r) f w) (Sat P n K .normal (.code b :: r) f w) := h
       exact zdR (t := t) (by rw [zbe hf]; exact ht) (fun e => (h.t e).h hf) (fun e => (h.f e).h hf)
      ·exact h.elim
     | loop c => simp only [run, zdw] at h; exact Loop.h h hf
     | exit id => exact zjN ⟨f, hf, rfl, ih _ _ _ _ hf h⟩
     | ret => exact zla ⟨f, hf, rfl, ih _ _ _ _ hf h⟩
     | rangeFunc fo ps as b => simp only [run, zdw] at h; exact Range.h h hf
     | scope c => exact Other.h h hf
     | label l => exact Other.h h hf
     | goto l => exact Other.h h hf
     | refuse s => exact Other.h h hf
    ·exact zby he (fun id i h => by cases h) (ih e r f w hf (by cases e <;> first | exact (he rfl).elim | exact h))
   | blk id =>
    cases e with
    | normal => exact (ih .normal r f w hf h : after P n r K .normal f w)
    | exit i =>
     simp only [run] at h
     simp only [after]
     split at h
     ·rename_i hb; rw [if_pos (Nat.eq_of_beq_eq_true hb)]; exact ih _ _ _ _ hf h
     ·rename_i hb
      rw [if_neg (fun e => by subst e; rw [show Nat.beq i i = true from Nat.beq_refl i] at hb; cases hb)]; exact ih _ _ _ _ hf h
    | _ => exact zby (by simp) (fun _ _ _ => by simp) (ih _ r f w hf h)
   | ops all l dr =>
    by_cases he : e = .normal
    ·subst he
     cases l with
     | nil =>
      have h1 := ih _ _ _ _ hf h
      cases dr with
      | false => exact ⟨f, hf, rfl, h1⟩
      | true => exact ⟨f, hf, rfl, h1⟩
     | cons o l =>
      have hg := zgU (o := o) (all := all) hf
      simp only [run] at h
      split at h
      ·exact h.elim
      ·rename_i hv
       rw [hv] at hg
       obtain ⟨h1, h2⟩ := zdX hf (fun f w hf h => ih _ _ _ _ hf h) h
       exact zlG hg ⟨fun e hk => by rw [zbe hf]; exact h1 e hk, h2⟩
      ·rename_i hv
       rw [hv] at hg
       split at h
       ·rename_i hd
        exact ziw hf hg (by rw [hd]; rfl) (by rw [hd]; exact ih _ _ _ _ hf h)
       ·rename_i i hd
        split at h
        ·rename_i hb
         have hp : putOk n o.dst = true := by rw [hd]; exact hb
         exact ziw hf hg hp (by rw [hd] at *; exact ih _ _ _ _ (zbO (d := some i) undef hf hb).1 h)
        ·exact h.elim
      ·rename_i b hv
       rw [hv] at hg
       dsimp only at hg
       have h : Br b (Sat P n K .normal (.ops all ({ o with guard := none } :: l) dr :: r) f w) (Then P n K o.dst undef (.ops all l dr :: r) f w) := h
       cases b with
       | true => exact zjz hg ((h.t rfl).h hf)
       | false =>
        obtain ⟨hp, ha⟩ := (h.f rfl).h hf
        exact ziw hf hg hp ha
    ·exact zby he (fun id i h => by cases h) (ih e r f w hf (by cases e <;> first | exact (he rfl).elim | exact h))
   | opsH S hs all l =>
    by_cases he : e = .normal
    ·subst he
     cases l with
     | nil =>
      have h1 := ih _ _ _ _ hf h
      exact fun _ _ => ⟨f, hf, rfl, h1⟩
     | cons o l =>
      have hg := zgU (o := o) (all := all) hf
      simp only [run] at h
      split at h
      ·exact h.elim
      ·rename_i hv
       rw [hv] at hg
       refine zkm hg fun hS => ?_
       obtain ⟨h1, h2⟩ := zhH hf hS (fun f w hf h => ih _ _ _ _ hf h) h
       exact ⟨fun e => by rw [zbe hf]; exact h1 e, h2⟩
      ·rename_i hv
       rw [hv] at hg
       split at h
       ·rename_i hd
        exact zgy hf hg (by rw [hd]; rfl) (by rw [hd]; exact ih _ _ _ _ hf h)
       ·rename_i i hd
        split at h
        ·rename_i hb
         have hp : putOk n o.dst = true := by rw [hd]; exact hb
         exact zgy hf hg hp (by rw [hd] at *; exact ih _ _ _ _ (zbO (d := some i) undef hf hb).1 h)
        ·exact h.elim
      ·rename_i b hv
       rw [hv] at hg
       dsimp only at hg
       have h : Br b (Sat P n K .normal (.opsH S hs all ({ o with guard := none } :: l) :: r) f w) (Then P n K o.dst undef (.opsH S hs all l :: r) f w) := h
       cases b with
       | true => exact ziG hg ((h.t rfl).h hf)
       | false =>
        obtain ⟨hp, ha⟩ := (h.f rfl).h hf
        exact zgy hf hg hp ha
    ·exact zby he (fun id i h => by cases h) (ih e r f w hf (by cases e <;> first | exact (he rfl).elim | exact h))
end
def fuel : Nat := 3000
theorem Draw.text {P : Program} {n : Nat} {K : Exit → Fr → World → Prop} {id : Nat} {ops : Array Oper} {t : List It} {f : Fr} {w : World} (hB : textB P ops = true)
  (h : Sat P n K .normal (.ops ops.toList ops.toList true :: t) f w.drew) : Draw P n K id ops t f w :=
 ⟨fun hm hf => by obtain ⟨l⟩ := ops; exact zdQ hm hB (h.h hf)⟩
theorem Draw.held {P : Program} {n : Nat} {K : Exit → Fr → World → Prop} {id : Nat} {ops : Array Oper} {t : List It} {f : Fr} {w : World} (S : World → Prop) (hs : Option Tmp → Bool) (hB : textH P hs ops = true) (hw : S w.drew)
  (h : Sat P n K .normal (.opsH S hs ops.toList ops.toList :: t) f w.drew) : Draw P n K id ops t f w :=
 ⟨fun hm hf => by obtain ⟨l⟩ := ops; exact zdP hm hs S hw hB (h.h hf hw)⟩
theorem Sat.go {P : Program} {n : Nat} {K : Exit → Fr → World → Prop} {e : Exit} {t : List It} {f : Fr} {w : World} (hm : P.follows .mixedOrders = true) (h : (run P n fuel e t f w).holds P n K) : Sat P n K e t f w :=
 ⟨fun hf => zip hm _ _ _ _ _ hf h⟩
def runPut (P : Program) (n : Nat) (d : Option Tmp) (v : Value) (t : List It) (f : Fr) (w : World) : Stop :=
 force v fun v => (match d with
  | none => run P n fuel .normal t f w
  | some i => (match Nat.ble (i + 1) n with | true => run P n fuel .normal t (upd f i v) w | false => .bad))
theorem Then.go {P : Program} {n : Nat} {K : Exit → Fr → World → Prop} {d : Option Tmp} {v : Value} {t : List It} {f : Fr} {w : World} (hm : P.follows .mixedOrders = true) (h : (runPut P n d v t f w).holds P n K) : Then P n K d v t f w :=
 ⟨fun hf => by
  unfold runPut at h
  rw [zau] at h
  split at h
  ·exact ⟨rfl, zip hm _ _ _ _ _ hf h⟩
  ·rename_i i
   split at h
   ·rename_i hb; exact ⟨hb, zip hm _ _ _ _ _ (zbO (d := some i) v hf hb).1 h⟩
   ·exact h.elim⟩
def setL : List (Nat × Value) → Fr → Fr
 | [], g => g
 | (i, v) :: r, g => upd (setL r g) i v
def Agree (f : Fr) : List (Nat × Value) → Prop
 | [] => True
 | (i, v) :: r => f.g i = v ∧ Agree f r
theorem zim {f : Fr} : ∀ {l : List (Nat × Value)}, Agree f l → setL l f = f
 | [], _ => rfl
 | (i, v) :: r, ⟨h, hr⟩ => by
  obtain ⟨g, ds⟩ := f
  simp only [setL, zim hr, upd]
  congr 1
  funext j
  cases hb : Nat.beq j i with
  | true => have := Nat.eq_of_beq_eq_true hb; subst this; exact h.symm
  | false => rfl
def dsK (dl : DL) (g : Fr) (p : Prop) : Prop :=
 match dl, g.ds with
 | .nil, .nil => p
 | .of l, .of l' => l' = l ∧ p
 | _, _ => False
theorem zlI {dl : DL} {g : Fr} {p : Prop} (h : dsK dl g p) : g.ds = dl ∧ p := by
 unfold dsK at h
 split at h
 ·rename_i e; exact ⟨e, h⟩
 ·rename_i e; obtain ⟨rfl, h⟩ := h; exact ⟨e, h⟩
 ·exact h.elim
theorem zlJ {g : Fr} {dl : DL} (h : g.ds = dl) : (⟨g.g, dl⟩ : Fr) = g := by subst h; rfl
def roundK {ι : Type} (P : Program) (n : Nat) (slots : ι → List (Nat × Value)) (I : ι → World → Prop) (μ : ι → Nat) (i : ι) (dl : DL) (K : Exit → Fr → World → Prop) (t : List It) : Exit → Fr → World → Prop
 | .normal, g, w => dsK dl g (Ret (∃ j, Agree g (slots j) ∧ I j w ∧ μ j < μ i))
 | .exit i, g, w => Sat P n K (.exit i) t g w
 | .goto l, g, w => Sat P n K (.goto l) t g w
 | .ret, g, w => Sat P n K .ret t g w
 | .panic ch, g, w => Sat P n K (.panic ch) t g w
 | .outgrown, g, w => Sat P n K .outgrown t g w
theorem Loop.intro {P : Program} {n : Nat} {c : Code} {t : List It} {K : Exit → Fr → World → Prop} {fg : Nat → Value} {dl : DL} {w : World} {ι : Type} (slots : ι → List (Nat × Value)) (I : ι → World → Prop) (μ : ι → Nat) (i₀ : ι)
  (h₀ : Agree ⟨fg, dl⟩ (slots i₀)) (hI : I i₀ w) (round : ∀ i g w, I i w → Sat P n (roundK P n slots I μ i dl K t) .normal [.code c] (setL (slots i) ⟨g, dl⟩) w) : Loop P n K c t ⟨fg, dl⟩ w := by
 refine ⟨fun hf => zhz (fun i a w => ∃ g, Ok n g ∧ a = act n g ∧ g.ds = dl ∧ Agree g (slots i) ∧ I i w) μ i₀ ⟨⟨fg, dl⟩, hf, rfl, rfl, h₀, hI⟩ ?_⟩
 rintro i a w ⟨g, hg, rfl, hd, hag, hI⟩
 have hr := round i g.g w hI
 rw [zlJ hd, zim hag] at hr
 have hr := hr.h hg
 refine zeV (show c.wpX P (LiftE n (after P n [] _)) (act n g) w from hr) fun e a' w' he => ?_
 obtain ⟨g', hg', rfl, hk⟩ := he
 have hk : roundK P n slots I μ i dl K t e g' w' := hk
 cases e with
 | normal =>
  obtain ⟨hd, hk⟩ := zlI hk
  obtain ⟨j, h1, h2, h3⟩ := Ret.h hk
  exact ⟨j, ⟨g', hg', rfl, hd, h1, h2⟩, h3⟩
 | _ => exact ⟨g', hg', rfl, Sat.h hk hg'⟩
def retV : List Value → Value
 | [v] => v
 | l => .tuple l.toArray
def initG : List Value → Nat → Value
 | [], _ => undef
 | v :: _, 0 => v
 | _ :: r, j + 1 => initG r j
def initF (l : List Value) : Fr := ⟨initG l, .nil⟩
theorem zgc : ∀ (l : List Value) (j : Nat), initG l j = l.getD j undef
 | [], j => by cases j <;> rfl
 | v :: r, 0 => rfl
 | v :: r, j + 1 => by simp only [initG, zgc r j]; rfl
theorem zdD (l : List Value) (j : Nat) : (initF l).g j = l.getD j undef := zgc l j
theorem zjG {n : Nat} {args : List Value} (h : args.length ≤ n) : args.toArray ++ Array.replicate (n - args.toArray.size) undef = frArr n (initF args) := by
 apply Array.ext'
 simp only [frArr, Array.toList_append, Array.toList_replicate, List.size_toArray]
 apply List.ext_getElem?
 intro j
 rw [List.getElem?_append, List.getElem?_map]
 by_cases hj : j < args.length
 ·rw [if_pos hj, List.getElem?_range (by omega), Option.map_some, zdD, List.getD_eq_getElem?_getD, List.getElem?_eq_getElem hj]; rfl
 ·rw [if_neg hj]
  by_cases hn : j < n
  ·rw [List.getElem?_range hn, Option.map_some, zdD, List.getElem?_replicate, if_pos (by omega), List.getD_eq_getElem?_getD, List.getElem?_eq_none (l := args) (by omega)]; rfl
  ·rw [List.getElem?_eq_none (by simp; omega), List.getElem?_eq_none (by simp; omega)]; rfl
theorem zlp {n : Nat} {args : List Value} (h : args.length ≤ n) : Ok n (initF args) := fun j hj => by
 rw [zdD, List.getD_eq_getElem?_getD, List.getElem?_eq_none (by omega)]; rfl
inductive RS where
 | val (v : Value)
 | load (t : TypeId) (a : Addr) (acc : List Value) (rest : List ResultVar)
 | bad
def resR (f : Fr) : List ResultVar → List Value → RS
 | [], acc => (match acc with
   | [] => .val (.tuple #[])
   | [v] => .val v
   | [a, b] => .val (.tuple #[a, b])
   | [a, b, c] => .val (.tuple #[a, b, c])
   | l => .val (.tuple l.toArray))
 | .tmp t :: r, acc => force (f.g t) fun v => (match acc with
   | [] => resR f r [v]
   | [a] => resR f r [a, v]
   | [a, b] => resR f r [a, b, v]
   | acc => resR f r (acc ++ [v]))
 | .cell a t :: r, acc => (match f.g a with
   | .pointer (some ⟨b, o, s⟩) => .load t ⟨b, o, s⟩ acc r
   | _ => .bad)
def resM (tmps : Array Value) : ResultVar → Sem Value
 | .tmp t => pure (tmps.getD t undef)
 | .cell a t => do loadVar t (← asAddr (tmps.getD a undef))
structure ResK (P : Program) (n : Nat) (f : Fr) (w : World) (rs : List ResultVar) (acc : List Value) (R : Value → Prop) : Prop where
 h : Ok n f → ∃ vs, (rs.mapM (resM (frArr n f))).run P w = .ok vs w ∧ R (retV (acc ++ vs))
def RS.holds (P : Program) (n : Nat) (f : Fr) (w : World) (R : Value → Prop) : RS → Prop
 | .val v => Ret (R v)
 | .load t a acc rest => Load P t a w fun v => ResK P n f w rest (acc ++ [v]) R
 | .bad => False
theorem zgx {P : Program} {n : Nat} {f : Fr} (hf : Ok n f) {w : World} {R : Value → Prop} : ∀ (rs : List ResultVar) (acc : List Value), (resR f rs acc).holds P n f w R →
  ∃ vs, (rs.mapM (resM (frArr n f))).run P w = .ok vs w ∧ R (retV (acc ++ vs))
 | [], acc, h => ⟨[], rfl, by
   rw [List.append_nil]
   match acc, h with
   | [], h => exact Ret.h h
   | [v], h => exact Ret.h h
   | [a, b], h => exact Ret.h h
   | [a, b, c], h => exact Ret.h h
   | a :: b :: c :: d :: l, h => exact Ret.h h⟩
 | .tmp t :: r, acc, h => by
  have h : (resR f r (acc ++ [f.g t])).holds P n f w R := by
   simp only [resR, zau] at h
   split at h <;> exact h
  obtain ⟨vs, h1, h2⟩ := zgx hf r _ h
  refine ⟨f.g t :: vs, ?_, by simpa using h2⟩
  simp [List.mapM_cons, resM, zcD hf, h1]
 | .cell a t :: r, acc, h => by
  simp only [resR] at h
  split at h
  ·rename_i b o s he
   have h : Load P t ⟨b, o, s⟩ w fun v => ResK P n f w r (acc ++ [v]) R := h
   obtain ⟨v, h1, h2⟩ := h.h
   obtain ⟨vs, h3, h4⟩ := h2.h hf
   refine ⟨v :: vs, ?_, by simpa using h4⟩
   simp [List.mapM_cons, resM, zcD hf, he, asAddr, h1, h3]
  ·exact h.elim
theorem ResK.go {P : Program} {n : Nat} {f : Fr} {w : World} {rs : List ResultVar} {acc : List Value} {R : Value → Prop} (h : (resR f rs acc).holds P n f w R) : ResK P n f w rs acc R := ⟨fun hf => zgx hf rs acc h⟩
theorem zhM (fn : Func) (tmps : Array Value) : results fn tmps = (do let vs ← fn.results.mapM (resM tmps); pure (if h : vs.size = 1 then vs[0] else .tuple vs)) := by
 have : (fun | .tmp t => pure (tmps.getD t undef) | .cell a t => do loadVar t (← asAddr (tmps.getD a undef)) : ResultVar → Sem Value) = resM tmps := by
  funext r; cases r <;> rfl
 unfold results
 rw [← this]
 rfl
theorem zkM (vs : List Value) : (if h : vs.toArray.size = 1 then vs.toArray[0] else .tuple vs.toArray : Value) = retV vs := by
 match vs with
 | [] => rfl
 | [v] => rfl
 | a :: b :: r => rfl
theorem zkA {P : Program} {n : Nat} {f : Fr} (hf : Ok n f) {w : World} {fn : Func} {K : Value → Prop} (h : (resR f fn.results.toList []).holds P n f w K) :
  ∃ v, (results fn (frArr n f)).run P w = .ok v w ∧ K v := by
 obtain ⟨vs, h1, h2⟩ := zgx hf _ _ h
 refine ⟨retV vs, ?_, by simpa using h2⟩
 rw [zhM]
 have : fn.results.mapM (resM (frArr n f)) = List.toArray <$> fn.results.toList.mapM (resM (frArr n f)) := by
  rw [Array.mapM_eq_mapM_toList]
 rw [this]
 simp only [Sem.run_bind, Sem.run_map, h1, Result.andThen_ok, Sem.run_pure, zkM]
structure AllD (l : List Nat) (w : World) : Prop where
 nodup : l.Nodup
 all : ∀ D ∈ l, w.heap[D]? = some (.deferred (some []))
theorem AllD.nil (w : World) : AllD [] w := ⟨List.nodup_nil, fun _ h => by cases h⟩
structure EndD (P : Program) (n : Nat) (rs : List ResultVar) (R : Ending → World → Prop) (l : List Nat) (f : Fr) (w : World) : Prop where
 d : AllD l w
 k : ∀ w', Kp w w' (fun b => b ∈ l) → (resR f rs []).holds P n f w' fun v => R (.returned v) w'
def endW (P : Program) (n : Nat) (rs : List ResultVar) (R : Ending → World → Prop) (f : Fr) (w : World) : Prop :=
 match f.ds with
 | .nil => (resR f rs []).holds P n f w fun v => R (.returned v) w
 | .of l => EndD P n rs R l f w
def endK (P : Program) (n : Nat) (rs : List ResultVar) (R : Ending → World → Prop) : Exit → Fr → World → Prop
 | .normal, f, w => endW P n rs R f w
 | .ret, f, w => endW P n rs R f w
 | _, _, _ => False
theorem zkj {P : Program} {D : Nat} {w : World} (h : w.heap[D]? = some (.deferred (some []))) : (Instr.takeDeferred D).run P w = .ok [] (w.putObj D (.deferred none)) := by
 exact run_takeDeferred h
theorem zdU {P : Program} {fn : Func} {tmps : Array Value} {R : Ending → World → Prop} : ∀ (l : List Nat) (w : World), AllD l w → (∀ w', Kp w w' (fun b => b ∈ l) → ∃ v, (results fn tmps).run P w' = .ok v w' ∧ R (.returned v) w') →
  LeavesInM Fence.wide 0 P fn tmps R (l.map mark_) .returning w
 | [], w, _, h => by
  obtain ⟨v, h1, h2⟩ := h w (Kp.refl _ _)
  exact ⟨v, h1, h2⟩
 | D :: l, w, hd, h => by
  have hD := hd.all D List.mem_cons_self
  refine ⟨by simp, .inl ⟨D, _, rfl, zkj hD, ?_⟩⟩
  have hk : Kp w (w.putObj D (.deferred none)) (one_ D) := ⟨rfl, rfl, rfl, by simp, fun k _ hn => World.putObj_heap_other hn⟩
  have hnd := List.nodup_cons.1 hd.nodup
  refine zdU l _ ⟨hnd.2, fun D' h' => ?_⟩ fun w' hw' => h w' ((hk.mono fun i _ e => by rw [e]; exact List.mem_cons_self).trans hw' fun i _ hi => List.mem_cons_of_mem _ hi)
  rw [World.putObj_heap_other (show D' ≠ D from fun e => hnd.1 (by subst e; exact h'))]
  exact hd.all D' (List.mem_cons_of_mem _ h')
theorem zaa {P : Program} {k : FuncId} {fn : Func} {c : Code} {args : List Value} {w : World} {R : Ending → World → Prop} (hf : P.funcs[k]? = some fn) (hb : fn.body = some c) (ha : args.length ≤ fn.ntmps)
  (h : Sat P fn.ntmps (endK P fn.ntmps fn.results.toList R) .normal [.code c] (initF args) w) : Calls P k args.toArray w R := by
 refine (callsIn_wide (n := 0)).1 (callsIn_of_wp_marks hf hb trivial ?_)
 rw [zjG ha]
 have h1 := h.h (zlp ha)
 refine wpIn_mono ((show c.wpX P (LiftE fn.ntmps (after P fn.ntmps [] _)) (act fn.ntmps (initF args)) w from h1) none (.inl rfl)) fun e a w he => ?_
 obtain ⟨g, hg, rfl, hk⟩ := he
 have hk : endK P fn.ntmps fn.results.toList R e g w := hk
 have key : endW P fn.ntmps fn.results.toList R g w → LeavesInM Fence.wide 0 P fn (act fn.ntmps g).tmps R (act fn.ntmps g).defers .returning w := fun hk => by
  obtain ⟨gg, ds⟩ := g
  cases ds with
  | nil =>
   have hk : (resR ⟨gg, .nil⟩ fn.results.toList []).holds P fn.ntmps ⟨gg, .nil⟩ w fun v => R (.returned v) w := hk
   obtain ⟨v, h1, h2⟩ := zkA hg hk
   exact ⟨v, h1, h2⟩
  | of l =>
   have hk : EndD P fn.ntmps fn.results.toList R l ⟨gg, .of l⟩ w := hk
   exact zdU l w hk.d fun w' hw' => zkA hg (hk.k w' hw')
 cases e with
 | normal => exact key hk
 | ret => exact key hk
 | _ => exact hk.elim
end Go.Vc
