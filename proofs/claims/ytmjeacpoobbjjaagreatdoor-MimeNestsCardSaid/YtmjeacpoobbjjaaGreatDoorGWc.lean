/- Helper lemmas that the proved statement rests on; no conditions of their own. -/
import Derived.Test.YtmjeacpoobbjjaaGreatDoorGKitX
set_option linter.unusedVariables false
set_option maxHeartbeats 2000000
namespace Go.Vc
open Go Go.Pw
inductive DL where
 | nil
 | of (l : List Nat)
def DL.toL : DL → List Nat
 | .nil => []
 | .of l => l
structure Fr where
 g : Nat → Value
 ds : DL
def mark_ (D : Nat) : Deferred := { target := .collected D, args := #[] }
def frArr (n : Nat) (f : Fr) : Array Value := ((List.range n).map f.g).toArray
def upd (f : Fr) (i : Nat) (v : Value) : Fr := ⟨fun j => match Nat.beq j i with | true => v | false => f.g j, f.ds⟩
def forceD {α : Type} (f : Fr) (K : Fr → α) : α :=
 match f.ds with
 | .nil => K ⟨f.g, .nil⟩
 | .of l => K ⟨f.g, .of l⟩
theorem zdw {α : Type} (f : Fr) (K : Fr → α) : forceD f K = K f := by
 obtain ⟨g, ds⟩ := f
 cases ds <;> rfl
def Ok (n : Nat) (f : Fr) : Prop := ∀ j, n ≤ j → f.g j = undef
def ev (f : Fr) : Operand → Value
 | .tmp t => f.g t
 | .const v => v
 | .global g => .pointer (some ⟨g, 0, none⟩)
 | .func g => .func (.func g) #[] #[]
def act (n : Nat) (f : Fr) : Act := ⟨frArr n f, f.ds.toL.map mark_⟩
theorem zfz {n : Nat} {f : Fr} {i : Nat} (h : i < n) : (frArr n f)[i]? = some (f.g i) := by simp [frArr, h]
theorem zem {n : Nat} {f : Fr} {i : Nat} (h : n ≤ i) : (frArr n f)[i]? = none := by simp [frArr, h]
theorem zcD {n : Nat} {f : Fr} (hf : Ok n f) (i : Nat) : (frArr n f).getD i undef = f.g i := by
 rw [Array.getD_eq_getD_getElem?]
 by_cases h : i < n
 ·rw [zfz h]; rfl
 ·rw [zem (by omega), hf i (by omega)]; rfl
theorem zbe {n : Nat} {f : Fr} (hf : Ok n f) : (act n f).eval = ev f := by
 funext o
 cases o with
 | tmp t => exact zcD hf t
 | _ => rfl
theorem zkr (f : Fr) (i : Nat) (v : Value) : (upd f i v).g i = v := by
 have : Nat.beq i i = true := Nat.beq_refl i
 unfold upd; dsimp only; rw [this]
theorem zkE (f : Fr) {i j : Nat} (v : Value) (h : j ≠ i) : (upd f i v).g j = f.g j := by
 have : Nat.beq j i = false := by
  cases hb : Nat.beq j i
  ·rfl
  ·exact absurd (Nat.eq_of_beq_eq_true hb) h
 unfold upd; dsimp only; rw [this]
theorem zfp {n : Nat} {f : Fr} {i : Nat} (h : i < n) (v : Value) : (frArr n f).setIfInBounds i v = frArr n (upd f i v) := by
 apply Array.ext
 ·simp [frArr]
 ·intro j h1 h2
  simp only [frArr, List.setIfInBounds_toArray, List.getElem_toArray, List.getElem_set, List.getElem_map, List.getElem_range]
  split
  ·rename_i e; subst e; exact (zkr _ _ _).symm
  ·rename_i e; exact (zkE _ _ (fun h => e h.symm)).symm
theorem zkG {n : Nat} {f : Fr} {i : Nat} (hf : Ok n f) (h : i < n) (v : Value) : Ok n (upd f i v) := fun j hj => by
 rw [zkE _ _ (by omega)]; exact hf j hj
def put' (n : Nat) (f : Fr) (d : Option Tmp) (v : Value) : Fr := match d with | none => f | some i => upd f i v
def putOk (n : Nat) (d : Option Tmp) : Bool := match d with | none => true | some i => Nat.ble (i + 1) n
theorem zbO {n : Nat} {f : Fr} {d : Option Tmp} (v : Value) (hf : Ok n f) (h : putOk n d = true) : Ok n (put' n f d v) ∧ (act n f).put d v = act n (put' n f d v) := by
 cases d with
 | none => exact ⟨hf, rfl⟩
 | some i =>
  have hi : i < n := Nat.le_of_ble_eq_true h
  exact ⟨zkG hf hi v, by simp only [Act.put, act, put']; rw [zfp hi]; rfl⟩
structure Num (k : IntKind) (e : Int) (K : Int → Prop) : Prop where
 h : K (k.wrap e)
structure Br (b : Bool) (p q : Prop) : Prop where
 t : b = true → p
 f : b = false → q
structure Load (P : Program) (t : TypeId) (a : Addr) (w : World) (K : Value → Prop) : Prop where
 h : ∃ v, (loadVar t a).run P w = .ok v w ∧ K v
structure Store (P : Program) (t : TypeId) (a : Addr) (v : Value) (w : World) (K : World → Prop) : Prop where
 h : ∃ w', (storeVar t a v).run P w = .ok () w' ∧ K w'
structure CallS (P : Program) (g : FuncId) (args : List Value) (w : World) (K : Value → World → Prop) : Prop where
 h : ((callFunc g args.toArray).run P w = .ok (.enter g args.toArray) w ∧ Calls P g args.toArray w fun e w' => ∃ v, e = .returned v ∧ K v w') ∨ ∃ v w', (callFunc g args.toArray).run P w = .ok (.value v) w' ∧ K v w'
structure YieldS (P : Program) (l : Nat) (args : List Value) (w : World) (K : Value → World → Prop) : Prop where
 h : ∃ f tmps assign body, (Instr.yield l args.toArray).run P w = .ok (.round l f tmps assign body) w ∧ RoundIn Fence.wide 0 P l f tmps assign body w fun e w' => ∃ v, e = .returned v ∧ K v w'
structure Idx (i : Int) (n : Nat) (K : Nat → Prop) : Prop where
 h : ∃ j : Nat, i = j ∧ j < n ∧ K j
structure Cut (lo hi : Option Int) (n len : Nat) (K : Nat → Nat → Prop) : Prop where
 h : ∃ l h : Nat, (lo = some (l : Int) ∨ lo = none ∧ l = 0) ∧ (hi = some (h : Int) ∨ hi = none ∧ h = len) ∧ l ≤ h ∧ h ≤ n ∧ K l h
structure RunV (P : Program) (s : Sem Value) (w : World) (K : Value → World → Prop) : Prop where
 h : ∃ v w', s.run P w = .ok v w' ∧ K v w'
structure RunU (P : Program) (s : Sem Unit) (w : World) (K : World → Prop) : Prop where
 h : ∃ w', s.run P w = .ok () w' ∧ K w'
structure RunN (P : Program) (s : Sem Next) (w : World) (K : Value → World → Prop) : Prop where
 h : ∃ v w', s.run P w = .ok (.value v) w' ∧ K v w'
structure Ret (p : Prop) : Prop where
 h : p
inductive Need where
 | num (k : IntKind) (e : Int) (w : World)
 | br (b : Bool) (x y : Value) (w : World)
 | load (t : TypeId) (a : Addr) (w : World)
 | store (t : TypeId) (a : Addr) (v : Value) (w : World)
 | call (g : FuncId) (args : List Value) (w : World)
 | yield (l : Nat) (args : List Value) (w : World)
 | idx (i : Int) (n : Nat) (mk : Nat → Value) (w : World)
 | cut (lo hi : Option Int) (n len : Nat) (mk : Nat → Nat → Value) (w : World)
 | runV (s : Sem Value) (w : World)
 | runU (s : Sem Unit) (w : World)
 | runN (s : Sem Next) (w : World)
def Need.holds (P : Program) (K : Value → World → Prop) : Need → Prop
 | .num k e w => Num k e fun n => K (.int k n) w
 | .br b x y w => Br b (K x w) (K y w)
 | .load t a w => Load P t a w fun v => K v w
 | .store t a v w => Store P t a v w fun w' => K undef w'
 | .call g args w => CallS P g args w K
 | .yield l args w => YieldS P l args w K
 | .idx i n mk w => Idx i n fun j => K (mk j) w
 | .cut lo hi n len mk w => Cut lo hi n len fun l h => K (mk l h) w
 | .runV s w => RunV P s w K
 | .runU s w => RunU P s w fun w' => K undef w'
 | .runN s w => RunN P s w K
inductive Res where
 | val (v : Value) (w : World)
 | need (nd : Need)
 | bad
def Res.holds (P : Program) (K : Value → World → Prop) : Res → Prop
 | .val v w => K v w
 | .need nd => nd.holds P K
 | .bad => False
def force {α : Type} (v : Value) (K : Value → α) : α :=
 match v with
 | .bool b => K (.bool b) | .int k n => K (.int k n) | .float k b => K (.float k b) | .complex k a b => K (.complex k a b) | .string s => K (.string s)
 | .pointer none => K (.pointer none) | .pointer (some ⟨b, o, s⟩) => K (.pointer (some ⟨b, o, s⟩))
 | .slice a l c => K (.slice a l c)
 | .map r => K (.map r) | .chan r => K (.chan r) | .func a b c => K (.func a b c) | .nilFunc => K .nilFunc
 | .iface t v => K (.iface t v) | .nilIface => K .nilIface | .agg cs => K (.agg cs) | .tuple vs => K (.tuple vs)
theorem zau {α : Type} (v : Value) (K : Value → α) : force v K = K v := by
 unfold force; split <;> rfl
def forceL {α : Type} (f : Fr) : List Operand → (List Value → α) → α
 | [], K => K []
 | o :: r, K => force (ev f o) fun v => forceL f r fun vs => K (v :: vs)
theorem zaI {α : Type} (f : Fr) : ∀ (l : List Operand) (K : List Value → α), forceL f l K = K (l.map (ev f))
 | [], K => rfl
 | o :: r, K => by simp only [forceL, zau, zaI f r, List.map_cons]
def forceP {α : Type} (f : Fr) : List (Nat × Operand) → (List (Nat × Value) → α) → α
 | [], K => K []
 | (i, o) :: r, K => force (ev f o) fun v => forceP f r fun vs => K ((i, v) :: vs)
theorem zdF {α : Type} (f : Fr) : ∀ (l : List (Nat × Operand)) (K : List (Nat × Value) → α), forceP f l K = K (l.map fun p => (p.1, ev f p.2))
 | [], K => rfl
 | (i, o) :: r, K => by simp only [forceP, zau, zdF f r, List.map_cons]
def forceO {α : Type} (f : Fr) : Option Operand → (Option Value → α) → α
 | none, K => K none
 | some o, K => force (ev f o) fun v => K (some v)
theorem ziT {α : Type} (f : Fr) (o : Option Operand) (K : Option Value → α) : forceO f o K = K (o.map (ev f)) := by
 cases o with
 | none => rfl
 | some o => exact zau (ev f o) fun v => K (some v)
def intO (f : Fr) : Option Operand → (Option Int → Res) → Res
 | none, K => K none
 | some o, K => (match ev f o with | .int _ i => K (some i) | _ => .bad)
def gen (P : Program) (f : Fr) (w : World) (o : Oper) : Res :=
 match (execOp (ev f) o).run P w with
 | .ok (.value v) w' => .val v w'
 | .ok .skip w' => .val undef w'
 | _ => .bad
def elemSize (P : Program) (t : TypeId) : Option Nat :=
 match P.underlying t with
 | some (.slice e) => (match P.info? e with | some i => some i.size | none => none)
 | some (.array _ e) => (match P.info? e with | some i => some i.size | none => none)
 | _ => none
def isSlice (P : Program) (t : TypeId) : Bool := match P.underlying t with | some (.slice _) => true | _ => false
def arrLen (P : Program) (t : TypeId) : Option Nat := match P.underlying t with | some (.array n _) => some n | _ => none
def isStr (P : Program) (t : TypeId) : Bool := match P.underlying t with | some .string => true | _ => false
def pickN {α : Type} (n : Nat) (K : Nat → α) : List Nat → α
 | [] => K n
 | a :: r => (match Nat.beq n a with | true => K a | false => pickN n K r)
def forceN {α : Type} (n : Nat) (K : Nat → α) : α := pickN n K [0, 1, 2, 3, 4, 5, 6, 7, 8, 9, 10, 11, 12, 13, 14, 15, 16, 17, 18, 19, 20, 21, 22, 23, 24, 25, 26, 27, 28, 29, 30, 31, 32]
theorem zgV {α : Type} (n : Nat) (K : Nat → α) : ∀ l, pickN n K l = K n
 | [] => rfl
 | a :: r => by
  unfold pickN
  split
  ·rename_i h; rw [Nat.eq_of_beq_eq_true h]
  ·exact zgV n K r
theorem zcg {α : Type} (n : Nat) (K : Nat → α) : forceN n K = K n := zgV n K _
def fieldOff (P : Program) (s fl : Nat) : Option Nat :=
 match P.underlying s with
 | some (.struct fs) => (match fs[fl]? with
   | some fd => (match P.info? fd.type with
     | some i => (match Nat.beq i.size 0 with | false => some fd.offset | true => none)
     | none => none)
   | none => none)
 | _ => none
def byteAt (s : ByteArray) (i : Nat) : UInt8 := s.data.toList.getD i 0
def callV (f : Fr) (w : World) (c : Go.Call) : Value → Res
 | .func (.func g) first cap => (match first.toList with
   | [] => forceL f c.args.toList fun vs => (match cap.toList with | [] => .need (.call g vs w) | cap => .need (.call g (vs ++ cap) w))
   | [a] => forceL f c.args.toList fun vs => (match cap.toList with | [] => .need (.call g (a :: vs) w) | cap => .need (.call g (a :: vs ++ cap) w))
   | _ => .bad)
 | .func (.yield l) first cap => (match first.toList with
   | [] => forceL f c.args.toList fun vs => (match cap.toList with | [] => .need (.yield l vs w) | _ => .bad)
   | _ => .bad)
 | _ => .bad
def opRes (P : Program) (f : Fr) (w : World) (o : Oper) : Res :=
 match o.op with
 | .load t a => (match ev f a with | .pointer (some ⟨b, i, s⟩) => .need (.load t ⟨b, i, s⟩ w) | _ => .bad)
 | .store t a x => (match ev f a with | .pointer (some ⟨b, i, s⟩) => force (ev f x) fun v => .need (.store t ⟨b, i, s⟩ v w) | _ => .bad)
 | .box e x => force (ev f x) fun v => (match v with
   | .agg cs => .val (.pointer (some ⟨w.heap.size, 0, none⟩)) (w.alloc (.cells cs e))
   | v => .val (.pointer (some ⟨w.heap.size, 0, none⟩)) (w.alloc (.cells #[v] e)))
 | .alloc e => (match P.info? e with
   | some i => (match i.zero with
     | some (.agg cs) => .val (.pointer (some ⟨w.heap.size, 0, none⟩)) (w.alloc (.cells cs e))
     | some v => force v fun v => .val (.pointer (some ⟨w.heap.size, 0, none⟩)) (w.alloc (.cells #[v] e))
     | none => .bad)
   | none => .bad)
 | .binOp .add t x y yt => (match ev f x, ev f y with
   | .int .i64 a, .int .i64 c => .need (.num .i64 (a + c) w)
   | .int .i32 a, .int .i32 c => .need (.num .i32 (a + c) w)
   | .int .u8 a, .int .u8 c => .need (.num .u8 (a + c) w)
   | .string a, .string c => .need (.runV (Op.stringOp .add a c) w)
   | _, _ => gen P f w o)
 | .binOp .sub t x y yt => (match ev f x, ev f y with
   | .int .i64 a, .int .i64 c => .need (.num .i64 (a - c) w)
   | .int .i32 a, .int .i32 c => .need (.num .i32 (a - c) w)
   | .int .u8 a, .int .u8 c => .need (.num .u8 (a - c) w)
   | _, _ => gen P f w o)
 | .binOp .mul t x y yt => (match ev f x, ev f y with
   | .int .i64 a, .int .i64 c => .need (.num .i64 (a * c) w)
   | .int .i32 a, .int .i32 c => .need (.num .i32 (a * c) w)
   | _, _ => gen P f w o)
 | .binOp .eql t x y yt => (match ev f x, ev f y with
   | .string a, .string c => .val (.bool (decide (a = c))) w
   | .agg xs, .agg ys => .need (.runV (do eqGuard .eql t x y (.agg xs) (.agg ys); binOp .eql t (.agg xs) (.agg ys)) w)
   | _, _ => gen P f w o)
 | .binOp .neq t x y yt => (match ev f x, ev f y with
   | .string a, .string c => .val (.bool (!decide (a = c))) w
   | .agg xs, .agg ys => .need (.runV (do eqGuard .neq t x y (.agg xs) (.agg ys); binOp .neq t (.agg xs) (.agg ys)) w)
   | _, _ => gen P f w o)
 | .fieldAddr s x fl => (match ev f x with
   | .pointer (some ⟨b, off, none⟩) => (match fieldOff P s fl with
     | some d => forceN d fun d => (match Nat.beq d 0 with | true => .val (.pointer (some ⟨b, off, none⟩)) w | false => .val (.pointer (some ⟨b, off + d, none⟩)) w)
     | none => gen P f w o)
   | _ => gen P f w o)
 | .indexAddr t x i => (match ev f x, ev f i with
   | .slice (some ⟨b, off, none⟩) len cap, .int _ i => (match isSlice P t, elemSize P t with
     | true, some sz => forceN sz fun sz => (match Nat.beq sz 1 with
       | true => .need (.idx i len (fun j => .pointer (some ⟨b, off + j, none⟩)) w)
       | false => .need (.idx i len (fun j => .pointer (some ⟨b, off + j * sz, none⟩)) w))
     | _, _ => .bad)
   | .pointer (some ⟨b, off, none⟩), .int _ i => (match arrLen P t, elemSize P t with
     | some n, some sz => forceN n fun n => forceN sz fun sz => (match Nat.beq sz 1 with
       | true => .need (.idx i n (fun j => .pointer (some ⟨b, off + j, none⟩)) w)
       | false => .need (.idx i n (fun j => .pointer (some ⟨b, off + j * sz, none⟩)) w))
     | _, _ => .bad)
   | _, _ => .bad)
 | .index t x i => (match ev f x, ev f i with
   | .string s, .int _ i => (match isStr P t with | true => .need (.idx i s.size (fun j => .int .u8 (byteAt s j).toNat) w) | false => .bad)
   | _, _ => .need (.runV (Instr.index t (ev f x) (ev f i)) w))
 | .slice t x lo hi none => (match ev f x with
   | .string s => (match isStr P t with
     | true => intO f lo fun lo => intO f hi fun hi => .need (.cut lo hi s.size s.size (fun l h => .string (s.extract l h)) w)
     | false => .bad)
   | .slice (some ⟨b, off, none⟩) len cap => (match isSlice P t, elemSize P t with
     | true, some sz => intO f lo fun lo => intO f hi fun hi => forceN sz fun sz =>
       .need (.cut lo hi cap len (fun l h => .slice (some ⟨b, if l = cap then off else off + l * sz, none⟩) (h - l) (cap - l)) w)
     | _, _ => .bad)
   | x => .need (.runV (Instr.sliceAt t x (lo.map (ev f)) (hi.map (ev f)) none) w))
 | .slice t x lo hi (some m) => force (ev f x) fun x => forceO f lo fun lo => forceO f hi fun hi => force (ev f m) fun m => .need (.runV (Instr.sliceAt t x lo hi (some m)) w)
 | .call c => (match c.callee with
   | .builtin .len => (match c.argTypes.toList with
     | [t] => (match isStr P t, isSlice P t with
       | true, _ => forceL f c.args.toList fun vs => (match vs with | [.string s] => .val (.int .i64 s.size) w | _ => .bad)
       | false, true => forceL f c.args.toList fun vs => (match vs with | [.slice _ n _] => .val (.int .i64 n) w | _ => .bad)
       | _, _ => forceL f c.args.toList fun vs => .need (.runN (builtin .len c.argTypes o.type #[false] vs.toArray) w))
     | _ => .bad)
   | .builtin .min => forceL f c.args.toList fun vs => (match vs with | [.int k a, .int _ b] => .val (.int k (min a b)) w | _ => .bad)
   | .builtin .max => forceL f c.args.toList fun vs => (match vs with | [.int k a, .int _ b] => .val (.int k (max a b)) w | _ => .bad)
   | .builtin b => forceL f c.args.toList fun vs => .need (.runN (builtin b c.argTypes o.type (c.args.map fun | .const _ => true | _ => false) vs.toArray) w)
   | .value fo => callV f w c (ev f fo)
   | .invoke .. => .bad)
 | .pick c a b => (match ev f c with | .bool t => force (ev f a) fun x => force (ev f b) fun y => .need (.br t x y w) | _ => .bad)
 | .makeFunc fn a b => forceL f a.toList fun as => forceL f b.toList fun bs => .val (.func fn as.toArray bs.toArray) w
 | .build t ps => forceP f ps.toList fun l => .need (.runV (Instr.build t l.toArray) w)
 | .next it s => .need (.runV (Instr.next (ev f it) s o.type) w)
 | .range t x => .need (.runV (Instr.range t (ev f x)) w)
 | .entry it => .need (.runV (Instr.entry (ev f it)) w)
 | .makeSlice t l c => force (ev f l) fun l => force (ev f c) fun c => .need (.runV (Instr.makeSlice t l c) w)
 | .buildSlice t n ps => forceP f ps.toList fun l => .need (.runV (Instr.buildSlice t n l.toArray) w)
 | .makeMap t r => .need (.runV (Instr.makeMap t (r.map (ev f))) w)
 | .lookup t x i ok => force (ev f x) fun x => force (ev f i) fun i => .need (.runV (Instr.lookup t x i ok) w)
 | .mapUpdate t m k x => force (ev f m) fun m => force (ev f k) fun k => force (ev f x) fun x => .need (.runU (Instr.mapUpdate t m k x) w)
 | .insert t m k x => force (ev f m) fun m => force (ev f k) fun k => force (ev f x) fun x => .need (.runU (Instr.mapUpdate t m k x) w)
 | .mapEntry t m k => force (ev f m) fun m => force (ev f k) fun k => .need (.runV (Instr.mapEntry t m k) w)
 | .entryStore t m s x => force (ev f m) fun m => force (ev f s) fun s => force (ev f x) fun x => .need (.runU (Instr.entryStore t m s x) w)
 | .convert s d x => (match ev f x with
   | .int _ _ => gen P f w o
   | x => .need (.runV (convert s d x) w))
 | _ => gen P f w o
section
variable {P : Program} {f : Fr} {w : World} {o : Oper} {K : Value → World → Prop}
def Good (P : Program) (f : Fr) (w : World) (o : Oper) (K : Value → World → Prop) : Prop :=
 (∃ v w', (execOp (ev f) o).run P w = .ok (.value v) w' ∧ K v w') ∨ (∃ w', (execOp (ev f) o).run P w = .ok .skip w' ∧ K undef w') ∨
 (∃ g args, (execOp (ev f) o).run P w = .ok (.enter g args) w ∧ Calls P g args w fun e w' => ∃ v, e = .returned v ∧ K v w') ∨
 (∃ l g tmps assign body, (execOp (ev f) o).run P w = .ok (.round l g tmps assign body) w ∧ RoundIn Fence.wide 0 P l g tmps assign body w fun e w' => ∃ v, e = .returned v ∧ K v w')
theorem zjc {n : Nat} (hf : Ok n f) (h : Good P f w o K) : o.wpN P (act n f) w (fun a w' => ∃ v, a = (act n f).put o.dst v ∧ K v w') := by
 unfold Oper.wpN
 rw [zbe hf]
 rcases h with ⟨v, w', h1, h2⟩ | ⟨w', h1, h2⟩ | ⟨g, args, h1, h2⟩ | ⟨l, g, tmps, assign, body, h1, h2⟩
 ·rw [h1]; exact ⟨v, rfl, h2⟩
 ·rw [h1]; exact ⟨undef, rfl, h2⟩
 ·rw [h1]
  refine Calls.mono h2 fun e w' he => ?_
  obtain ⟨v, rfl, hk⟩ := he
  exact ⟨v, rfl, hk⟩
 ·rw [h1]
  refine RoundIn.mono h2 fun e w' he => ?_
  obtain ⟨v, rfl, hk⟩ := he
  exact ⟨v, rfl, hk⟩
theorem zaQ (h : (gen P f w o).holds P K) : Good P f w o K := by
 unfold gen at h
 split at h
 ·rename_i v w' hr; exact .inl ⟨v, w', hr, h⟩
 ·rename_i w' hr; exact .inr (.inl ⟨w', hr, h⟩)
 ·exact h.elim
theorem zay {s : Sem Value} (hs : execOp (ev f) o = (do pure (Next.value (← s)))) (h : ∃ v w', s.run P w = .ok v w' ∧ K v w') : Good P f w o K := by
 obtain ⟨v, w', h1, h2⟩ := h
 exact .inl ⟨v, w', by rw [hs]; simp [h1], h2⟩
theorem zhj {s : Sem Unit} (hs : execOp (ev f) o = (do s; pure Next.skip)) (h : ∃ w', s.run P w = .ok () w' ∧ K undef w') : Good P f w o K := by
 obtain ⟨w', h1, h2⟩ := h
 exact .inr (.inl ⟨w', by rw [hs]; simp [h1], h2⟩)
end
set_option linter.unusedSimpArgs false
variable {P : Program} {f : Fr} {w : World} {K : Value → World → Prop}
theorem zbC {P : Program} {e : TypeId} {i : TypeInfo} (h : P.info? e = some i) (w : World) : (sizeOf e).run P w = .ok i.size w := by
 simp [sizeOf, typeInfo, h]
theorem zat {P : Program} {t : TypeId} {d : TypeDesc} (h : P.underlying t = some d) (w : World) : (underlying t).run P w = .ok d w := by
 simp [underlying, h]
theorem zev {t : TypeId} {sz : Nat} (h1 : isSlice P t = true) (h2 : elemSize P t = some sz) : ∃ e i, P.underlying t = some (.slice e) ∧ P.info? e = some i ∧ i.size = sz := by
 unfold isSlice at h1; unfold elemSize at h2
 split at h1
 ·rename_i e he
  rw [he] at h2; dsimp only at h2
  split at h2
  ·rename_i i hi; cases h2; exact ⟨e, i, he, hi, rfl⟩
  ·cases h2
 ·cases h1
theorem zjF {t : TypeId} {sz n : Nat} (h1 : arrLen P t = some n) (h2 : elemSize P t = some sz) : ∃ e i, P.underlying t = some (.array n e) ∧ P.info? e = some i ∧ i.size = sz := by
 unfold arrLen at h1; unfold elemSize at h2
 split at h1
 ·rename_i m e he
  cases h1
  rw [he] at h2; dsimp only at h2
  split at h2
  ·rename_i i hi; cases h2; exact ⟨e, i, he, hi, rfl⟩
  ·cases h2
 ·cases h1
theorem zfj {t : TypeId} (h : isStr P t = true) : P.underlying t = some .string := by
 unfold isStr at h; split at h
 ·assumption
 ·cases h
theorem zaH (b o n : Nat) : (⟨b, o, none⟩ : Addr).add n = ⟨b, o + n, none⟩ := by unfold Addr.add; split <;> simp_all
theorem ziI {dst : Option Tmp} {ty : TypeId} {pos : String} {after : Array Edge} {g : Option (Nat × Bool)} {t : TypeId} {a : Operand} {ad : Addr} (he : ev f a = .pointer (some ad))
  (h : Load P t ad w fun v => K v w) : Good P f w ⟨dst, .load t a, ty, pos, after, g⟩ K := by
 obtain ⟨v, h1, h2⟩ := h.h
 refine zay (s := Instr.loadAt t (ev f a)) rfl ⟨v, w, ?_, h2⟩
 rw [he]; simp [Instr.loadAt, Instr.sureAddr, h1]
theorem zhT {dst : Option Tmp} {ty : TypeId} {pos : String} {after : Array Edge} {g : Option (Nat × Bool)} {t : TypeId} {a x : Operand} {ad : Addr} (he : ev f a = .pointer (some ad))
  (h : Store P t ad (ev f x) w fun w' => K undef w') : Good P f w ⟨dst, .store t a x, ty, pos, after, g⟩ K := by
 obtain ⟨w', h1, h2⟩ := h.h
 refine zhj (s := Instr.storeAt t (ev f a) (ev f x)) rfl ⟨w', ?_, h2⟩
 rw [he]; simp [Instr.storeAt, Instr.sureAddr, h1]
theorem zdr {dst : Option Tmp} {ty : TypeId} {pos : String} {after : Array Edge} {g : Option (Nat × Bool)} {t : TypeId} {x i : Operand} {b off len cap sz : Nat} {k : IntKind} {ix : Int}
  (hx : ev f x = .slice (some ⟨b, off, none⟩) len cap) (hi : ev f i = .int k ix) (h1 : isSlice P t = true) (h2 : elemSize P t = some sz)
  (h : Idx ix len fun j => K (.pointer (some ⟨b, off + j * sz, none⟩)) w) : Good P f w ⟨dst, .indexAddr t x i, ty, pos, after, g⟩ K := by
 obtain ⟨e, inf, he, hin, rfl⟩ := zev h1 h2
 obtain ⟨j, rfl, hj, hk⟩ := h.h
 refine zay (s := Instr.indexAt t (ev f x) (ev f i)) rfl ⟨_, w, ?_, hk⟩
 rw [hx, hi]
 simp [Instr.indexAt, asIntOf, zat he, zbC hin, hj, zaH]
theorem zeF {dst : Option Tmp} {ty : TypeId} {pos : String} {after : Array Edge} {g : Option (Nat × Bool)} {t : TypeId} {x i : Operand} {b off n sz : Nat} {k : IntKind} {ix : Int}
  (hx : ev f x = .pointer (some ⟨b, off, none⟩)) (hi : ev f i = .int k ix) (h1 : arrLen P t = some n) (h2 : elemSize P t = some sz)
  (h : Idx ix n fun j => K (.pointer (some ⟨b, off + j * sz, none⟩)) w) : Good P f w ⟨dst, .indexAddr t x i, ty, pos, after, g⟩ K := by
 obtain ⟨e, inf, he, hin, rfl⟩ := zjF h1 h2
 obtain ⟨j, rfl, hj, hk⟩ := h.h
 refine zay (s := Instr.indexAt t (ev f x) (ev f i)) rfl ⟨_, w, ?_, hk⟩
 rw [hx, hi]
 simp [Instr.indexAt, asIntOf, zat he, zbC hin, hj, zaH, Instr.sureAddr]
theorem zhG {s : ByteArray} {j : Nat} (h : j < s.size) : s[j]? = some (byteAt s j) := by
 have h' : j < s.data.toList.length := by simpa using h
 unfold byteAt
 rw [List.getD_eq_getElem?_getD, List.getElem?_eq_getElem h']
 rw [getElem?_pos s j h]
 rfl
theorem zeJ {dst : Option Tmp} {ty : TypeId} {pos : String} {after : Array Edge} {g : Option (Nat × Bool)} {t : TypeId} {x i : Operand} {s : ByteArray} {k : IntKind} {ix : Int}
  (hx : ev f x = .string s) (hi : ev f i = .int k ix) (h1 : isStr P t = true)
  (h : Idx ix s.size fun j => K (.int .u8 (byteAt s j).toNat) w) : Good P f w ⟨dst, .index t x i, ty, pos, after, g⟩ K := by
 have he := zfj h1
 obtain ⟨j, rfl, hj, hk⟩ := h.h
 refine zay (s := Instr.index t (ev f x) (ev f i)) rfl ⟨_, w, ?_, hk⟩
 rw [hx, hi]
 simp [Instr.index, asIntOf, zat he, zhG hj]
theorem zhh {k : IntKind} {h y : Nat} {code : BoundsCode} (hh : h ≤ y) : (Instr.sliceBound (.int k h) y code).run P w = .ok h w := by
 simp [Instr.sliceBound, asIntOf, hh]
theorem zhX {lo : Option Operand} {q : Option Int → Res} (h : (intO f lo q).holds P K) : ∃ li, ((lo.map (ev f) = none ∧ li = none) ∨ ∃ k i, lo.map (ev f) = some (.int k i) ∧ li = some i) ∧ (q li).holds P K := by
 cases lo with
 | none => exact ⟨none, .inl ⟨rfl, rfl⟩, h⟩
 | some o =>
  simp only [intO] at h
  split at h
  ·rename_i k i he; exact ⟨some i, .inr ⟨k, i, by simp [he], rfl⟩, h⟩
  ·exact h.elim
theorem zkF {isS : Bool} {lo hi : Option Operand} {n len : Nat} {mk : Nat → Nat → Value} (h : (intO f lo fun lo => intO f hi fun hi => .need (.cut lo hi n len mk w)).holds P K) :
  ∃ l h, (Instr.sliceBounds isS len n (lo.map (ev f)) (hi.map (ev f)) none).run P w = .ok (l, h, n) w ∧ l ≤ h ∧ h ≤ n ∧ K (mk l h) w := by
 obtain ⟨li, h1, h⟩ := zhX h
 obtain ⟨hi', h2, h⟩ := zhX h
 have h : Cut li hi' n len fun l h => K (mk l h) w := h
 obtain ⟨l, hh, e1, e2, h3, h4, h5⟩ := h.h
 refine ⟨l, hh, ?_, h3, h4, h5⟩
 unfold Instr.sliceBounds
 rcases h1 with ⟨a1, rfl⟩ | ⟨k1, i1, a1, rfl⟩ <;> rcases h2 with ⟨a2, rfl⟩ | ⟨k2, i2, a2, rfl⟩ <;> simp only [a1, a2] <;> simp at e1 e2 <;> subst e1 <;> subst e2 <;> simp [zhh h4, zhh h3]
theorem zgq {dst : Option Tmp} {ty : TypeId} {pos : String} {after : Array Edge} {g : Option (Nat × Bool)} {t : TypeId} {x : Operand} {lo hi : Option Operand} {s : ByteArray}
  (hx : ev f x = .string s) (h1 : isStr P t = true) (h : (intO f lo fun lo => intO f hi fun hi => .need (.cut lo hi s.size s.size (fun l h => .string (s.extract l h)) w)).holds P K) : Good P f w ⟨dst, .slice t x lo hi none, ty, pos, after, g⟩ K := by
 have he := zfj h1
 obtain ⟨l, hh, hr, _, _, hk⟩ := zkF (P := P) (w := w) (isS := false) h
 refine zay (s := Instr.sliceAt t (ev f x) (lo.map (ev f)) (hi.map (ev f)) ((none : Option Operand).map (ev f))) rfl ⟨_, w, ?_, hk⟩
 rw [hx]
 simp [Instr.sliceAt, Instr.slice, zat he, hr]
theorem zfc {dst : Option Tmp} {ty : TypeId} {pos : String} {after : Array Edge} {g : Option (Nat × Bool)} {t : TypeId} {x : Operand} {lo hi : Option Operand} {b off len cap sz : Nat}
  (hx : ev f x = .slice (some ⟨b, off, none⟩) len cap) (h1 : isSlice P t = true) (h2 : elemSize P t = some sz)
  (h : (intO f lo fun lo => intO f hi fun hi => .need (.cut lo hi cap len (fun l h => .slice (some ⟨b, if l = cap then off else off + l * sz, none⟩) (h - l) (cap - l)) w)).holds P K) : Good P f w ⟨dst, .slice t x lo hi none, ty, pos, after, g⟩ K := by
 obtain ⟨e, inf, he, hin, rfl⟩ := zev h1 h2
 obtain ⟨l, hh, hr, _, _, hk⟩ := zkF (P := P) (w := w) (isS := true) h
 refine zay (s := Instr.sliceAt t (ev f x) (lo.map (ev f)) (hi.map (ev f)) ((none : Option Operand).map (ev f))) rfl ⟨_, w, ?_, hk⟩
 rw [hx]
 simp only [Instr.sliceAt, Instr.slice, Sem.run_bind, zat he, Result.andThen_ok, Option.map_none, hr, zbC hin, Sem.run_pure, Result.ok.injEq, Value.slice.injEq, and_true]
 by_cases e : l = cap
 ·subst e; simp
 ·rw [if_neg e, if_neg (fun h => e h.symm)]; simp [zaH]
end Go.Vc
namespace Go.Vc
open Go Go.Pw
set_option linter.unusedSimpArgs false
variable {P : Program} {f : Fr} {w : World} {K : Value → World → Prop}
theorem zej (a b : ByteArray) : (a.toList == b.toList) = decide (a = b) := by
 rw [Bool.eq_iff_iff]
 simp only [beq_iff_eq, ByteArray.toList_eq, decide_eq_true_eq]
 exact ⟨fun h => ByteArray.ext (Array.ext' h), fun h => by rw [h]⟩
section
variable {dst : Option Tmp} {ty : TypeId} {pos : String} {after : Array Edge} {g : Option (Nat × Bool)}
theorem zjq {e : TypeId} {x : Operand} (h : K (.pointer (some ⟨w.heap.size, 0, none⟩)) (w.alloc (.cells (ev f x).cells e))) : Good P f w ⟨dst, .box e x, ty, pos, after, g⟩ K := by
 exact zay (s := Instr.box e (ev f x)) rfl ⟨_, _, rfl, h⟩
theorem zew {e : TypeId} {i : TypeInfo} {z : Value} (hi : P.info? e = some i) (hz : i.zero = some z)
  (h : K (.pointer (some ⟨w.heap.size, 0, none⟩)) (w.alloc (.cells z.cells e))) : Good P f w ⟨dst, .alloc e, ty, pos, after, g⟩ K := by
 refine zay (s := Instr.alloc e true (.tuple #[])) rfl ⟨_, _, ?_, h⟩
 have : (zeroValue e).run P w = .ok z w := by simp [zeroValue, typeInfo, hi, hz]
 unfold Instr.alloc
 rw [Sem.run_bind, this]
 rfl
theorem zbg {b : BinOp} {t yt : TypeId} {x y : Operand} {k : IntKind} {a c e : Int} (hx : ev f x = .int k a) (hy : ev f y = .int k c)
  (he : ∀ w, (do eqGuard b t x y (.int k a) (.int k c); binOp b t (.int k a) (.int k c) : Sem Value).run P w = .ok (.int k (k.wrap e)) w) (h : Num k e fun n => K (.int k n) w) : Good P f w ⟨dst, .binOp b t x y yt, ty, pos, after, g⟩ K := by
 refine zay (s := do eqGuard b t x y (ev f x) (ev f y); binOp b t (ev f x) (ev f y)) rfl ⟨_, w, ?_, h.h⟩
 rw [hx, hy]; exact he w
theorem ziN {c : Go.Call} {fo : Operand} {v : Value} (hc : c.callee = .value fo) (hv : ev f fo = v) (h : (callV f w c v).holds P K) : Good P f w ⟨dst, .call c, ty, pos, after, g⟩ K := by
 unfold callV at h
 split at h
 ·rename_i gn first cap
  have hcs : CallS P gn (first.toList ++ c.args.toList.map (ev f) ++ cap.toList) w K := by
   split at h
   ·rename_i hfirst
    rw [zaI] at h
    rw [hfirst, List.nil_append]
    split at h
    ·rename_i hc; rw [hc, List.append_nil]; exact h
    ·exact h
   ·rename_i a hfirst
    rw [zaI] at h
    rw [hfirst]
    split at h
    ·rename_i hc; rw [hc, List.append_nil]; exact h
    ·exact h
   ·exact h.elim
  have he : execOp (ev f) ⟨dst, .call c, ty, pos, after, g⟩ = (do let d ← resolve (ev f) c ty; invoke d.target d.args) := rfl
  have hd : resolve (ev f) c ty = pure { target := .fn (.func gn) cap, args := first ++ c.args.map (ev f) } := by
   unfold resolve; rw [hc]; simp only [hv, Deferred.ofValue]; try simp
  have ha : first ++ c.args.map (ev f) ++ cap = (first.toList ++ c.args.toList.map (ev f) ++ cap.toList).toArray := by
   apply Array.ext'; simp
  have hrun : (execOp (ev f) ⟨dst, .call c, ty, pos, after, g⟩).run P w = (callFunc gn (first.toList ++ c.args.toList.map (ev f) ++ cap.toList).toArray).run P w := by
   rw [he, hd]
   simp only [Sem.run_bind, Sem.run_pure, Result.andThen_ok, invoke]
   rw [ha]
  rcases hcs.h with ⟨h1, h2⟩ | ⟨v', w', h1, h2⟩
  ·exact .inr (.inr (.inl ⟨gn, _, hrun.trans h1, h2⟩))
  ·exact .inl ⟨v', w', hrun.trans h1, h2⟩
 ·rename_i l first cap
  split at h
  ·rename_i hfirst
   have hfirst : first = #[] := by apply Array.ext'; simpa using hfirst
   subst hfirst
   rw [zaI] at h
   split at h
   ·rename_i hcap
    have hcap : cap = #[] := by apply Array.ext'; simpa using hcap
    subst hcap
    obtain ⟨fn, tmps, assign, body, h1, h2⟩ := YieldS.h h
    refine .inr (.inr (.inr ⟨l, fn, tmps, assign, body, ?_, h2⟩))
    have he : execOp (ev f) ⟨dst, .call c, ty, pos, after, g⟩ = (do let d ← resolve (ev f) c ty; invoke d.target d.args) := rfl
    have hd : resolve (ev f) c ty = pure { target := .fn (.yield l) #[], args := c.args.map (ev f) } := by
     unfold resolve; rw [hc]; simp only [hv, Deferred.ofValue]; simp
    have ha : c.args.map (ev f) = (c.args.toList.map (ev f)).toArray := by
     apply Array.ext'; simp
    rw [he, hd]
    simp only [Sem.run_bind, Sem.run_pure, Result.andThen_ok, invoke]
    rw [ha]; exact h1
   ·exact h.elim
  ·exact h.elim
 ·exact h.elim
theorem zhx {s fl : Nat} {x : Operand} {b off d : Nat} (hx : ev f x = .pointer (some ⟨b, off, none⟩)) (hd : fieldOff P s fl = some d) (h : K (.pointer (some ⟨b, off + d, none⟩)) w) :
  Good P f w ⟨dst, .fieldAddr s x fl, ty, pos, after, g⟩ K := by
 unfold fieldOff at hd
 split at hd
 ·rename_i fs hu
  split at hd
  ·rename_i fd hf
   split at hd
   ·rename_i i hi
    split at hd
    ·rename_i hz
     have hz : i.size ≠ 0 := fun e => by rw [e] at hz; cases hz
     cases hd
     refine zay (s := Instr.fieldAt s (ev f x) fl) rfl ⟨_, w, ?_, h⟩
     rw [hx]
     simp [Instr.fieldAt, zat hu, hf, Instr.sureAddr, fieldPlace, zbC hi, hz, zaH]
    ·cases hd
   ·cases hd
  ·cases hd
 ·cases hd
theorem zjl {c : Go.Call} : execOp (ev f) ⟨dst, .call c, ty, pos, after, g⟩ = (do let d ← resolve (ev f) c ty; invoke d.target d.args) := rfl
theorem zaN {c : Go.Call} {b : Builtin} (hc : c.callee = .builtin b) : (execOp (ev f) ⟨dst, .call c, ty, pos, after, g⟩).run P w =
  (builtin b c.argTypes ty (c.args.map fun | .const _ => true | _ => false) (c.args.toList.map (ev f)).toArray).run P w := by
 have ha : c.args.map (ev f) = (List.map (ev f) c.args.toList).toArray := by apply Array.ext'; simp
 rw [zjl]
 unfold resolve; rw [hc]
 simp only [Sem.run_bind, Sem.run_pure, Result.andThen_ok, invoke, ha]
 rfl
theorem good_builtin' {c : Go.Call} {b : Builtin} (hc : c.callee = .builtin b) (h : RunN P (builtin b c.argTypes ty (c.args.map fun | .const _ => true | _ => false) (c.args.toList.map (ev f)).toArray) w K) : Good P f w ⟨dst, .call c, ty, pos, after, g⟩ K := by
 obtain ⟨v, w', hr, hk⟩ := h.h
 exact .inl ⟨v, w', by rw [zaN hc]; exact hr, hk⟩
theorem zfJ {c : Go.Call} (hc : c.callee = .builtin .len) (h : RunN P (builtin .len c.argTypes ty #[false] (c.args.toList.map (ev f)).toArray) w K) : Good P f w ⟨dst, .call c, ty, pos, after, g⟩ K := by
 obtain ⟨v, w', hr, hk⟩ := h.h
 exact .inl ⟨v, w', by rw [zaN hc]; exact hr, hk⟩
theorem zfV {c : Go.Call} {t : TypeId} {s : ByteArray} (hc : c.callee = .builtin .len) (ht : c.argTypes.toList = [t]) (hu : P.underlying t = some .string) (hs : c.args.toList.map (ev f) = [.string s]) (h : K (.int .i64 s.size) w) :
  Good P f w ⟨dst, .call c, ty, pos, after, g⟩ K := by
 have ht : c.argTypes = #[t] := by apply Array.ext'; simpa using ht
 refine .inl ⟨_, w, ?_, h⟩
 rw [zaN hc, hs, ht]
 simp [builtin, Builtin.len_, zat hu, goInt]
theorem zdS {c : Go.Call} {t : TypeId} {a : Option Addr} {n cp : Nat} (hc : c.callee = .builtin .len) (ht : c.argTypes.toList = [t]) (hu : isSlice P t = true) (hs : c.args.toList.map (ev f) = [.slice a n cp]) (h : K (.int .i64 n) w) :
  Good P f w ⟨dst, .call c, ty, pos, after, g⟩ K := by
 have ht : c.argTypes = #[t] := by apply Array.ext'; simpa using ht
 unfold isSlice at hu
 split at hu
 ·rename_i e he
  refine .inl ⟨_, w, ?_, h⟩
  rw [zaN hc, hs, ht]
  simp [builtin, Builtin.len_, zat he, goInt]
 ·cases hu
theorem zkb {c : Go.Call} {k k' : IntKind} {a b : Int} (hc : c.callee = .builtin .min) (hs : c.args.toList.map (ev f) = [.int k a, .int k' b]) (h : K (.int k (min a b)) w) : Good P f w ⟨dst, .call c, ty, pos, after, g⟩ K := by
 refine .inl ⟨_, w, ?_, h⟩
 rw [zaN hc, hs]
 simp [builtin, Builtin.min_, Builtin.min2]
 omega
theorem zjx {c : Go.Call} {k k' : IntKind} {a b : Int} (hc : c.callee = .builtin .max) (hs : c.args.toList.map (ev f) = [.int k a, .int k' b]) (h : K (.int k (max a b)) w) : Good P f w ⟨dst, .call c, ty, pos, after, g⟩ K := by
 refine .inl ⟨_, w, ?_, h⟩
 rw [zaN hc, hs]
 simp [builtin, Builtin.max_, Builtin.max2]
 omega
end
theorem zeY {o : Oper} (h : (opRes P f w o).holds P K) : Good P f w o K := by
 obtain ⟨dst, op, ty, pos, after, g⟩ := o
 cases op with
 | load t a =>
  simp only [opRes] at h
  split at h
  ·rename_i he; exact ziI he h
  ·exact h.elim
 | store t a x =>
  simp only [opRes] at h
  split at h
  ·rename_i he; rw [zau] at h; exact zhT he h
  ·exact h.elim
 | box e x =>
  simp only [opRes, zau] at h
  refine zjq ?_
  split at h
  ·rename_i he; rw [he]; exact h
  ·rename_i hn
   have : (ev f x).cells = #[ev f x] := by
    cases hv : ev f x <;> first | rfl | exact (hn _ hv).elim
   rw [this]; exact h
 | alloc e =>
  simp only [opRes] at h
  split at h
  ·rename_i i hi
   split at h
   ·rename_i cs hz; exact zew hi hz h
   ·rename_i z hn hz
    rw [zau] at h
    refine zew hi hz ?_
    have : z.cells = #[z] := by
     cases z <;> first | rfl | exact (hn _ rfl).elim
    rw [this]; exact h
   ·exact h.elim
  ·exact h.elim
 | makeFunc fn a b =>
  simp only [opRes, zaI] at h
  refine zay (s := Instr.makeFunc fn (a.map (ev f)) (b.map (ev f))) rfl ⟨_, w, rfl, ?_⟩
  have ha : a.map (ev f) = (a.toList.map (ev f)).toArray := by apply Array.ext'; simp
  have hb : b.map (ev f) = (b.toList.map (ev f)).toArray := by apply Array.ext'; simp
  rw [ha, hb]; exact h
 | binOp b t x y yt =>
  cases b
  case add =>
   simp only [opRes] at h
   split at h
   ·rename_i hx hy; exact zbg hx hy (fun _ => rfl) h
   ·rename_i hx hy; exact zbg hx hy (fun _ => rfl) h
   ·rename_i hx hy; exact zbg hx hy (fun _ => rfl) h
   ·rename_i hx hy
    refine zay (s := do eqGuard .add t x y (ev f x) (ev f y); binOp .add t (ev f x) (ev f y)) rfl ?_
    obtain ⟨v, w', h1, h2⟩ := RunV.h h
    refine ⟨v, w', ?_, h2⟩
    rw [hx, hy]; exact h1
   ·exact zaQ h
  case sub =>
   simp only [opRes] at h
   split at h
   ·rename_i hx hy; exact zbg hx hy (fun _ => rfl) h
   ·rename_i hx hy; exact zbg hx hy (fun _ => rfl) h
   ·rename_i hx hy; exact zbg hx hy (fun _ => rfl) h
   ·exact zaQ h
  case mul =>
   simp only [opRes] at h
   split at h
   ·rename_i hx hy; exact zbg hx hy (fun _ => rfl) h
   ·rename_i hx hy; exact zbg hx hy (fun _ => rfl) h
   ·exact zaQ h
  case eql =>
   simp only [opRes] at h
   split at h
   ·rename_i a c hx hy
    refine zay (s := do eqGuard .eql t x y (ev f x) (ev f y); binOp .eql t (ev f x) (ev f y)) rfl ⟨_, _, ?_, h⟩
    rw [hx, hy, ← zej]; rfl
   ·rename_i hx hy
    refine zay (s := do eqGuard .eql t x y (ev f x) (ev f y); binOp .eql t (ev f x) (ev f y)) rfl ?_
    obtain ⟨v, w', h1, h2⟩ := RunV.h h
    refine ⟨v, w', ?_, h2⟩
    rw [hx, hy]; exact h1
   ·exact zaQ h
  case neq =>
   simp only [opRes] at h
   split at h
   ·rename_i a c hx hy
    refine zay (s := do eqGuard .neq t x y (ev f x) (ev f y); binOp .neq t (ev f x) (ev f y)) rfl ⟨_, _, ?_, h⟩
    rw [hx, hy, ← zej]; rfl
   ·rename_i hx hy
    refine zay (s := do eqGuard .neq t x y (ev f x) (ev f y); binOp .neq t (ev f x) (ev f y)) rfl ?_
    obtain ⟨v, w', h1, h2⟩ := RunV.h h
    refine ⟨v, w', ?_, h2⟩
    rw [hx, hy]; exact h1
   ·exact zaQ h
  all_goals exact zaQ h
 | fieldAddr s x fl =>
  simp only [opRes] at h
  split at h
  ·rename_i hx
   split at h
   ·rename_i d hd
    rw [zcg] at h
    refine zhx hx hd ?_
    split at h
    ·rename_i h0; rw [Nat.eq_of_beq_eq_true h0]; exact h
    ·exact h
   ·exact zaQ h
  ·exact zaQ h
 | indexAddr t x i =>
  simp only [opRes] at h
  split at h
  ·rename_i hx hi
   split at h
   ·rename_i h1 h2
    rw [zcg] at h
    refine zdr hx hi h1 h2 ?_
    split at h
    ·rename_i hb; rw [Nat.eq_of_beq_eq_true hb]; simp only [Nat.mul_one]; exact h
    ·exact h
   ·exact h.elim
  ·rename_i hx hi
   split at h
   ·rename_i h1 h2
    simp only [zcg] at h
    refine zeF hx hi h1 h2 ?_
    split at h
    ·rename_i hb; rw [Nat.eq_of_beq_eq_true hb]; simp only [Nat.mul_one]; exact h
    ·exact h
   ·exact h.elim
  ·exact h.elim
 | index t x i =>
  simp only [opRes] at h
  split at h
  ·rename_i hx hi
   split at h
   ·rename_i h1; exact zeJ hx hi h1 h
   ·exact h.elim
  ·exact zay (s := Instr.index t (ev f x) (ev f i)) rfl (RunV.h h)
 | slice t x lo hi mx =>
  cases mx with
  | some m =>
   simp only [opRes, zau, ziT] at h
   exact zay (s := Instr.sliceAt t (ev f x) (lo.map (ev f)) (hi.map (ev f)) ((some m : Option Operand).map (ev f))) rfl (RunV.h h)
  | none =>
   simp only [opRes] at h
   split at h
   ·rename_i hx
    split at h
    ·rename_i h1; exact zgq hx h1 h
    ·exact h.elim
   ·rename_i hx
    split at h
    ·rename_i h1 h2; simp only [zcg] at h; exact zfc hx h1 h2 h
    ·exact h.elim
   ·rename_i hx1 hx2; exact zay (s := Instr.sliceAt t (ev f x) (lo.map (ev f)) (hi.map (ev f)) ((none : Option Operand).map (ev f))) rfl (RunV.h h)
 | pick c a b =>
  simp only [opRes, zau] at h
  split at h
  ·rename_i t ht
   have h : Br t (K (ev f a) w) (K (ev f b) w) := h
   refine .inl ⟨if t then ev f a else ev f b, w, ?_, ?_⟩
   ·show (do pure (Next.value (if ← asBool (ev f c) then ev f a else ev f b)) : Sem Next).run P w = _
    rw [ht]; simp [asBool]
   ·cases t
    ·exact h.f rfl
    ·exact h.t rfl
  ·exact h.elim
 | build t ps =>
  simp only [opRes, zdF] at h
  have e : (ps.toList.map fun p => (p.1, ev f p.2)).toArray = ps.map fun (i, x) => (i, ev f x) := by apply Array.ext'; simp
  rw [e] at h
  have h : RunV P (Instr.build t (ps.map fun (i, x) => (i, ev f x))) w K := h
  exact zay (s := Instr.build t (ps.map fun (i, x) => (i, ev f x))) rfl h.h
 | call c =>
  simp only [opRes] at h
  split at h
  ·rename_i hc
   split at h
   ·rename_i t ht
    split at h
    ·rename_i h1
     rw [zaI] at h
     split at h
     ·rename_i s hs; exact zfV hc ht (zfj (by assumption)) hs h
     ·exact h.elim
    ·rename_i h1 h2
     rw [zaI] at h
     split at h
     ·rename_i a n cp hs; exact zdS hc ht (by assumption) hs h
     ·exact h.elim
    ·rw [zaI] at h; exact zfJ hc h
   ·exact h.elim
  ·rename_i hc
   rw [zaI] at h
   split at h
   ·rename_i hs; exact zkb hc hs h
   ·exact h.elim
  ·rename_i hc
   rw [zaI] at h
   split at h
   ·rename_i hs; exact zjx hc hs h
   ·exact h.elim
  ·rename_i b h1 h2 h3 hc
   rw [zaI] at h
   exact good_builtin' hc h
  ·rename_i fo hc; exact ziN hc rfl h
  ·exact h.elim
 | next it s => exact zay (s := Instr.next (ev f it) s ty) rfl (RunV.h h)
 | range t x => exact zay (s := Instr.range t (ev f x)) rfl (RunV.h h)
 | entry it => exact zay (s := Instr.entry (ev f it)) rfl (RunV.h h)
 | makeSlice t l c => simp only [opRes, zau] at h; exact zay (s := Instr.makeSlice t (ev f l) (ev f c)) rfl (RunV.h h)
 | buildSlice t n ps =>
  simp only [opRes, zdF] at h
  have e : (ps.toList.map fun p => (p.1, ev f p.2)).toArray = ps.map fun (i, x) => (i, ev f x) := by apply Array.ext'; simp
  rw [e] at h
  have h : RunV P (Instr.buildSlice t n (ps.map fun (i, x) => (i, ev f x))) w K := h
  exact zay (s := Instr.buildSlice t n (ps.map fun (i, x) => (i, ev f x))) rfl h.h
 | makeMap t r => exact zay (s := Instr.makeMap t (r.map (ev f))) rfl (RunV.h h)
 | lookup t x i ok => simp only [opRes, zau] at h; exact zay (s := Instr.lookup t (ev f x) (ev f i) ok) rfl (RunV.h h)
 | mapUpdate t m k x => simp only [opRes, zau] at h; exact zhj (s := Instr.mapUpdate t (ev f m) (ev f k) (ev f x)) rfl (RunU.h h)
 | insert t m k x => simp only [opRes, zau] at h; exact zhj (s := Instr.mapUpdate t (ev f m) (ev f k) (ev f x)) rfl (RunU.h h)
 | mapEntry t m k => simp only [opRes, zau] at h; exact zay (s := Instr.mapEntry t (ev f m) (ev f k)) rfl (RunV.h h)
 | entryStore t m s x => simp only [opRes, zau] at h; exact zhj (s := Instr.entryStore t (ev f m) (ev f s) (ev f x)) rfl (RunU.h h)
 | convert s d x =>
  simp only [opRes] at h
  split at h
  ·exact zaQ h
  ·exact zay (s := convert s d (ev f x)) rfl (RunV.h h)
 | _ => exact zaQ h
end Go.Vc
