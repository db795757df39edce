/- Helper lemmas that the proved statement rests on; no conditions of their own. -/
import Derived.Test.YtennokckmjcefaaGreatDoorGMk6
set_option linter.unusedVariables false
set_option maxRecDepth 100000
namespace Go.Proofs.YtennokckmjcefaaGreatDoor
open Go.Shelf Go.RowKit Go.Pw Go.Vc Go.Cs Go.Lib Go.Cd Go.Mg
def spC (p : Int × Int) : List Value := [.int .i64 p.1, .int .i64 p.2]
def encSp (p : Int × Int) : Value := .agg (spC p).toArray
def kyC (p : Int × List UInt8) : List Value := [.int .i64 p.1, .string (str p.2)]
def encKy (p : Int × List UInt8) : Value := .agg (kyC p).toArray
theorem spFields : ∃ a b, (Tryz.prog.fieldsOf 161).toList = [a, b] ∧ a.name ≠ "_" ∧ b.name ≠ "_" ∧ a.type = 3 ∧ b.type = 3 ∧ a.offset = 0 ∧ b.offset = 1 :=
 ⟨_, _, rfl, by decide, by decide, rfl, rfl, rfl, rfl⟩
theorem kyFields : ∃ a b, (Tryz.prog.fieldsOf 164).toList = [a, b] ∧ a.name ≠ "_" ∧ b.name ≠ "_" ∧ a.type = 3 ∧ b.type = 9 ∧ a.offset = 0 ∧ b.offset = 1 :=
 ⟨_, _, rfl, by decide, by decide, rfl, rfl, rfl, rfl⟩
theorem eq_sp (x y : Int × Int) (w : World) : (Op.equalIn (9999 + 1) 161 (encSp x) (encSp y)).run Tryz.prog w = .ok (decide (x = y)) w := by
 unfold encSp
 rw [run_equalIn_agg w 9999 161 _ _ (by rfl) (by kernel_rfl)]
 obtain ⟨a, b, hf, na, nb, ta, tb, oa, ob⟩ := spFields
 rw [hf]
 simp only [Op.eqFields, na, nb, ne_eq, not_false_eq_true, if_true, ta, tb, oa, ob]
 have p0 : (part 3 (spC x).toArray 0).run Tryz.prog w = .ok (.int .i64 x.1) w := by rfl
 have p1 : (part 3 (spC x).toArray 1).run Tryz.prog w = .ok (.int .i64 x.2) w := by rfl
 have q0 : (part 3 (spC y).toArray 0).run Tryz.prog w = .ok (.int .i64 y.1) w := by rfl
 have q1 : (part 3 (spC y).toArray 1).run Tryz.prog w = .ok (.int .i64 y.2) w := by rfl
 have i1 (a b : Int) : (Op.equalIn (9998 + 1) 3 (.int .i64 a) (.int .i64 b)).run Tryz.prog w = .ok (a == b) w := run_equalIn_int w 9998 3 .i64 .i64 a b (by rfl)
 simp only [Sem.run_bind, Sem.run_ite, p0, p1, q0, q1, i1, Result.andThen_ok]
 obtain ⟨x1, x2⟩ := x
 obtain ⟨y1, y2⟩ := y
 dsimp only
 by_cases h1 : x1 = y1 <;> by_cases h2 : x2 = y2 <;> simp [h1, h2]
theorem eq_ky (x y : Int × List UInt8) (w : World) : (Op.equalIn (9999 + 1) 164 (encKy x) (encKy y)).run Tryz.prog w = .ok (decide (x = y)) w := by
 unfold encKy
 rw [run_equalIn_agg w 9999 164 _ _ (by rfl) (by kernel_rfl)]
 obtain ⟨a, b, hf, na, nb, ta, tb, oa, ob⟩ := kyFields
 rw [hf]
 simp only [Op.eqFields, na, nb, ne_eq, not_false_eq_true, if_true, ta, tb, oa, ob]
 have p0 : (part 3 (kyC x).toArray 0).run Tryz.prog w = .ok (.int .i64 x.1) w := by rfl
 have p1 : (part 9 (kyC x).toArray 1).run Tryz.prog w = .ok (.string (str x.2)) w := by rfl
 have q0 : (part 3 (kyC y).toArray 0).run Tryz.prog w = .ok (.int .i64 y.1) w := by rfl
 have q1 : (part 9 (kyC y).toArray 1).run Tryz.prog w = .ok (.string (str y.2)) w := by rfl
 have i1 (a b : Int) : (Op.equalIn (9998 + 1) 3 (.int .i64 a) (.int .i64 b)).run Tryz.prog w = .ok (a == b) w := run_equalIn_int w 9998 3 .i64 .i64 a b (by rfl)
 have s1 (a b : ByteArray) : (Op.equalIn (9998 + 1) 9 (.string a) (.string b)).run Tryz.prog w = .ok (a == b) w := by rfl
 simp only [Sem.run_bind, Sem.run_ite, p0, p1, q0, q1, i1, s1, Result.andThen_ok]
 obtain ⟨x1, x2⟩ := x
 obtain ⟨y1, y2⟩ := y
 dsimp only
 rw [zoT]
 by_cases h1 : x1 = y1 <;> by_cases h2 : x2 = y2 <;> simp [h1, h2, zcD]
theorem keySp : KeyOk Tryz.prog 161 encSp := zia Tryz.underlying161 (fun _ _ => rfl) (fun w a b => eq_sp a b w) (fun e k w => by
  show (Instr.checkKey e (9999 + 1) 161 (.agg (spC k).toArray)).run Tryz.prog w = _
  have p0 : (part 3 (spC k).toArray 0).run Tryz.prog w = .ok (.int .i64 k.1) w := by rfl
  have p1 : (part 3 (spC k).toArray 1).run Tryz.prog w = .ok (.int .i64 k.2) w := by rfl
  have c0 : ∀ z, (Instr.checkKey e 9999 3 (.int .i64 z)).run Tryz.prog w = .ok () w := fun z => by
   show (Instr.checkKey e (9998 + 1) 3 _).run Tryz.prog w = _
   unfold Instr.checkKey
   simp [zaJ Tryz.underlying3]
  unfold Instr.checkKey
  simp [zaJ Tryz.underlying161, p0, p1, c0]) (fun k => by simp [encSp, spC, Instr.sameBits])
theorem keyKy : KeyOk Tryz.prog 164 encKy := zia Tryz.underlying164 (fun _ _ => rfl) (fun w a b => eq_ky a b w) (fun e k w => by
  show (Instr.checkKey e (9999 + 1) 164 (.agg (kyC k).toArray)).run Tryz.prog w = _
  have p0 : (part 3 (kyC k).toArray 0).run Tryz.prog w = .ok (.int .i64 k.1) w := by rfl
  have p1 : (part 9 (kyC k).toArray 1).run Tryz.prog w = .ok (.string (str k.2)) w := by rfl
  have c0 : ∀ z, (Instr.checkKey e 9999 3 (.int .i64 z)).run Tryz.prog w = .ok () w := fun z => by
   show (Instr.checkKey e (9998 + 1) 3 _).run Tryz.prog w = _
   unfold Instr.checkKey
   simp [zaJ Tryz.underlying3]
  have c1 : ∀ z, (Instr.checkKey e 9999 9 (.string z)).run Tryz.prog w = .ok () w := fun z => by
   show (Instr.checkKey e (9998 + 1) 9 _).run Tryz.prog w = _
   unfold Instr.checkKey
   simp [zaJ Tryz.underlying9]
  unfold Instr.checkKey
  simp [zaJ Tryz.underlying164, p0, p1, c0, c1]) (fun k => by simp [encKy, kyC, Instr.sameBits, zoT])
structure Ent where
 doc : Int
 field : Int
 text : List UInt8
deriving DecidableEq
def enC (e : Ent) : List Value := [.int .i64 e.doc, .int .i64 e.field, .string (str e.text)]
def countsE (e : Ent) : Bool := decide (1 ≤ e.doc) && decide (e.doc ≤ 1099511627776) && decide (0 < e.field) && decide (e.field < 6)
section
variable {w : World}
theorem zoA (e : Ent) : Calls Tryz.prog 139 #[.agg (enC e).toArray] w fun r w' => r = .returned (.bool (countsE e)) ∧ Kp w w' n_ := by
 refine zaa (args := [.agg (enC e).toArray]) Tryz.func139 rfl NL ?_; refine GW ?_
 obtain ⟨a_b3, v_b3, k_w1, z_w1, r_w1⟩ := new5 w 111 (enC e)
 generalize w.alloc (.cells (List.toArray (enC e)) 111) = w1 at *
 generalize hs_b3 : w.heap.size = b3 at *
 have q := Kp.refl w1 n_
 unfold countsE
 by_cases h1 : 1 ≤ e.doc
 ·by_cases h2 : e.doc ≤ 1099511627776
  ·by_cases h3 : 0 < e.field
   ·refine KGO ?_
    exact ⟨zal (by simp [h1, h2, h3]), k_w1⟩
   ·refine KGO ?_
    exact ⟨zal (by simp [h3]), k_w1⟩
  ·refine KGO ?_
   exact ⟨zal (by simp [h2]), k_w1⟩
 ·refine KGO ?_
  exact ⟨zal (by simp [h1]), k_w1⟩
def KeysIt (gf : Nat) (lb : Array Value) (mb : Nat) (ks : List Int) (w : World) : Prop := ∀ (L : Nat) (J Jx : List Int → World → Prop) (W : World), Kp w W n_ → (∀ pre W', J pre W' → W.heap.size ≤ W'.heap.size ∧ W'.heap[mb]? = W.heap[mb]?) → (∀ pre W1 W2, J pre W1 → Kp W1 W2 (one_ W.heap.size) → J pre W2) →
 (∀ pre x W1, J pre W1 → (∃ rest, (pre ++ x :: rest).Perm ks) ∧ W.heap.size + 1 ≤ W1.heap.size → YieldS Tryz.prog L [.int .i64 x] W1 fun v W2 => (v = .bool true ∧ J (pre ++ [x]) W2 ∧ SameB (one_ W.heap.size) W1 W2) ∨ (v = .bool false ∧ Jx (pre ++ [x]) W2)) → J [] W →
 Calls Tryz.prog gf (#[.func (.yield L) #[] #[]] ++ lb) W fun e W' => (∃ v, e = .returned v) ∧ ((∃ xs, xs.Perm ks ∧ J xs W') ∨ ∃ pre, Jx pre W')
theorem GRange.same {κ : Type} {enc : κ → Value} {w w' : World} {b r : Nat} {l : GM κ} (h : GRange enc w b r l) (h1 : w'.heap[b]? = w.heap[b]?) (h2 : w'.heap[r]? = w.heap[r]?) : GRange enc w' b r l := by
 obtain ⟨es, cl, s, g1, g2, g3⟩ := h
 exact ⟨es, cl, s, h1.trans g1, h2.trans g2, g3⟩
theorem zsh {b mb : Nat} {m : GM Int} (hv : VarK w b 143 [.map (some mb)]) (hm : GMapO (Value.int .i64) w mb m) : KeysIt 211 #[.pointer (some ⟨b, 0, none⟩)] mb (m.map (·.1)) w := by
 intro L J Jx W hkW hJs hJk hY hJ0
 have vW := hv.keep0 hkW
 have mW := hm.keep hkW (fun e => e)
 have aW := vW.at
 have qW := Kp.refl W n_
 show Calls Tryz.prog _ #[.func (.yield L) #[] #[], .pointer (some ⟨b, 0, none⟩)] W _
 refine zaa (args := [.func (.yield L) #[] #[], .pointer (some ⟨b, 0, none⟩)]) Tryz.func211 rfl NL ?_; refine GW ?_
 refine KGO ?_
 refine RunV.rangeG Tryz.underlying143 mW fun w1 hr k1 z1 => ?_
 obtain ⟨rb, hrb⟩ : ∃ rb, W.heap.size = rb := ⟨_, rfl⟩
 rw [hrb] at hr hJk hY hJs ⊢
 refine KGO ?_
 have hmb : mb < rb := by have := mW.g.lt; omega
 have hJ1 : J [] w1 := hJk _ _ _ hJ0 k1.of_none
 refine Loop.intro (ι := List Int × GM Int) (fun _ => [(0, .func (.yield L) #[] #[]), (5, .pointer (some ⟨rb, 0, none⟩))])
  (fun i wr => J i.1 wr ∧ GRange (Value.int .i64) wr mb rb i.2 ∧ (i.1 ++ i.2.map (·.1)).Perm (m.map (·.1))) (fun i => i.2.length) ([], m) ⟨rfl, rfl, trivial⟩
  ⟨hJ1, hr, List.Perm.refl _⟩ ?_
 rintro ⟨pre, left⟩ gg wr ⟨hj, hg, hp⟩
 dsimp only at hj hg hp
 refine GW ?_
 refine KGO ?_
 refine RunV.nextG hg (fun hl w2 k2 z2 => ?_) (fun pa q po w2 hl hr2 k2 z2 hent => ?_)
 ·subst hl
  have hj2 := hJk _ _ _ hj k2.of_none
  refine KGO ?_
  exact ⟨⟨_, rfl⟩, .inl ⟨pre, by simpa using hp, hj2⟩⟩
 ·obtain ⟨q1, q2⟩ := q
  subst hl
  have hj2 := hJk _ _ _ hj k2
  refine KGO ?_
  refine RunV.of hent ?_
  refine KGO ?_
  have hp2 : (pre ++ q1 :: (pa ++ po).map (·.1)).Perm (m.map (·.1)) := by
   refine List.Perm.trans ?_ hp
   rw [List.map_append, List.map_append, List.map_cons]
   exact List.Perm.append_left pre List.perm_middle.symm
  have hsz := hr2.lt
  have hy := hY pre q1 w2 hj2 ⟨⟨_, hp2⟩, by omega⟩
  refine YieldS.of hy ?_
  rintro v wT (⟨rfl, hJT, hsame⟩ | ⟨rfl, hJT⟩)
  ·refine GW ?_
   refine KGO ?_
   exact ⟨(pre ++ [q1], pa ++ po), ⟨rfl, rfl, trivial⟩, ⟨hJT, GRange.same hr2 ((hJs _ _ hJT).2.trans (hJs _ _ hj2).2.symm) (hsame rb rfl), by simpa using hp2⟩, by simp⟩
  ·refine GW ?_
   refine KGO ?_
   exact ⟨⟨_, rfl⟩, .inr ⟨_, hJT⟩⟩
theorem ztn {gf mb : Nat} {lb : Array Value} {ks : List Int} (hgf : ∀ (args : Array Value) (w : World), (callFunc gf args).run Tryz.prog w = .ok (.enter gf args) w) (it : KeysIt gf lb mb ks w) (hmb : mb < w.heap.size) (hl : ks.length ≤ 1000000000) :
  Calls Tryz.prog 237 #[.slice none 0 0, .func (.func gf) #[] lb] w fun r w' => ∃ v xs, r = .returned v ∧ xs.Perm ks ∧ OwnI w' w.heap.size v xs ∧ Kp w w' n_ := by
 refine zaa (args := [.slice none 0 0, .func (.func gf) #[] lb]) Tryz.func237 rfl NL ?_; refine GW ?_
 obtain ⟨a_b3, v_b3, k_w1, z_w1, r_w1⟩ := new5 w 40 ([.slice none 0 0])
 generalize w.alloc (.cells (List.toArray ([.slice none 0 0])) 40) = w1 at *
 generalize hs_b3 : w.heap.size = b3 at *
 refine KGO ?_
 obtain ⟨D, hD⟩ : ∃ D, w1.heap.size = D := ⟨_, rfl⟩
 refine Range.introN (α := Int) (fun x => [.int .i64 x]) (by rfl) hgf rfl rfl (by decide) (fun _ => rfl) (fun b => b = w1.heap.size + 2) (fun b hb => by omega)
  (fun pre W => Kp w1 W (one_ b3) ∧ ∃ vt, VarK W b3 40 [vt] ∧ OwnI W (D + 3) vt pre) (fun _ _ _ => False)
  (fun xs => xs.Perm ks) (fun pre x W => (∃ rest, (pre ++ x :: rest).Perm ks) ∧ D + 3 ≤ W.heap.size) ?_ ?_ ?_ ?_ ?_ ?_ ?_
 ·rintro pre W W' ⟨i1, vt, i2, i3⟩ hsz hk
  refine ⟨i1.trans hk fun q hq e => (by exfalso; rcases e with e | e <;> omega), vt, i2.keep hk (by rintro (e | e) <;> omega), zak i3 hk fun q hq e => ?_⟩
  obtain ⟨_, _, _, hBq, _⟩ := zas i3 hq
  rcases e with e | e <;> omega
 ·rintro c pre W W' h; exact h.elim
 ·intro W hk hz
  exact ⟨hk.of_none, .slice none 0 0, v_b3.keep0 hk, World.ownsRow_nil _ _ _ _⟩
 ·intro J Jx hJ1 hJk hJxk hY W hkW hWs hJ0
  have hm : ∀ {U : World}, Kp w1 U (one_ b3) → U.heap[mb]? = w1.heap[mb]? := fun k => k.block mb (by omega) (fun e => by have e : mb = b3 := e; omega)
  have h := it (w1.heap.size + 1) J Jx W (k_w1.trans0 hkW) (fun pre W' h => ⟨by have := (hJ1 pre W' h).2; omega, (hm (hJ1 pre W' h).1.1).trans (hm hkW.of_none).symm⟩) (by rw [hWs]; exact hJk) (by
   rw [hWs]
   intro pre x W1 h1 h2
   exact hY pre x W1 h1 ⟨h2.1, by omega⟩) hJ0
  exact h
 ·rintro pre x W ⟨i1, vt, i2, i3⟩ ⟨⟨rest, hrest⟩, hz3⟩ hsz
  obtain ⟨av, cv, rfl⟩ := zab i3
  have a3 := i2.at
  have qW := Kp.refl W n_
  refine GW ?_
  refine KGO ?_
  refine ⟨⟨Rec2.of (Kp.refl W n_) (by omega) id id, fun W3 k3 z3 => ?_⟩⟩
  have i2 := i2.keep k3 (show ¬ b3 = w1.heap.size + 1 by omega)
  have i3 := zak i3 k3 fun q hq e => by
   obtain ⟨_, _, _, hBq, _⟩ := zas i3 hq
   have e : q = w1.heap.size + 1 := e
   omega
  have hpl : pre.length < ks.length := by
   have h := hrest.length_eq
   rw [List.length_append, List.length_cons] at h; omega
  clear a3
  have a3 := i2.at
  have q3 := Kp.refl W3 n_
  refine GW ?_
  refine KGO ?_
  refine RunV.of (bs1I x _) ?_
  obtain ⟨a_b14, v_b14, k_W4, z_W4, r_W4⟩ := new5 W3 3 (inC x)
  generalize W3.alloc (.cells (List.toArray (inC x)) 3) = W4 at *
  generalize hs_b14 : W3.heap.size = b14 at *
  have i34 := zac i3 k_W4
  have i24 := i2.keep0 k_W4
  refine KGO ?_
  refine tyI.app1 x i34 (by omega) a_b14 (by omega) (by omega) fun v5 W5 o5 k5 => ?_
  have i25 := i24.keep k5 (zae i34 i24 (by decide))
  obtain ⟨a5, c5, rfl⟩ := zab o5
  refine KGO ?_
  refine Store.cellK (i := 0) i25 (by simp) (by rfl) ⟨rfl, by simp, by simp⟩ fun W6 v6 k6 => ?_
  have o6 := zag (D := [3]) o5 k6 (zaj i25 (by decide)) (by decide)
  have hoV : ∀ q, own_ (.slice av pre.length cv) q → D + 3 ≤ q := fun q e => by
   obtain ⟨_, _, _, hBq, _⟩ := zas i34 e; exact hBq
  have k36 : Kp W3 W6 (fun q => D + 3 ≤ q ∨ q = b3) := ((k_W4.of_none).trans' (k5.mono fun q _ e => .inl (hoV q e))).trans' (k6.mono fun q _ e => .inr e)
  refine KGO ?_
  refine ⟨⟨Rec2.of k36 (by omega) (by rintro (e | e) <;> omega) (by rintro (e | e) <;> omega), ⟨?_, _, v6, o6⟩, fun q hq => ?_⟩⟩
  ·exact (i1.trans (c := one_ b3) k3 fun q hq e => (by exfalso; have e : q = w1.heap.size + 1 := e; omega)).trans k36 fun q hq e => by
    rcases e with e | e
    ·exfalso; omega
    ·exact e
  ·exact (k36.block q (by omega) (by rintro (e | e) <;> omega)).trans (k3.block q (by omega) (fun e => by have e : q = w1.heap.size + 1 := e; omega))
 ·rintro xs W hS ⟨i1, vt, i2, i3⟩ hsz hd
  obtain ⟨av, cv, rfl⟩ := zab i3
  have a3 := i2.at
  have qW := Kp.refl W n_
  refine GW ?_
  refine KGO ?_
  have hAll : AllD [w1.heap.size] W := ⟨by simp, fun q hq => by rw [List.mem_singleton.1 hq]; exact hd⟩
  refine ⟨hAll, fun wz kz => ?_⟩
  have hnD : ∀ Ds : List TypeId, ∀ q, q < W.heap.size → q ∈ [w1.heap.size] → notD Ds W q := fun Ds q _ hq cs T z hh => by
   rw [List.mem_singleton.1 hq, hd] at hh; cases hh
  have oz := zag (D := [3]) i3 kz (hnD _) (by decide)
  have Kz : Kp w wz n_ := (zah k_w1 i1 (by omega)).trans kz fun q hq e => by have e := List.mem_singleton.1 e; omega
  refine GW ?_
  refine KGO ?_
  refine GW ?_
  exact ⟨_, xs, rfl, hS, zax oz (by omega), Kz⟩
 ·rintro c pre W h; exact h.elim
end
section
variable {w : World}
theorem zpP {b mb : Nat} {m : GM Int} (hv : VarK w b 165 [.map (some mb)]) (hm : GMapO (Value.int .i64) w mb m) : KeysIt 204 #[.pointer (some ⟨b, 0, none⟩)] mb (m.map (·.1)) w := by
 intro L J Jx W hkW hJs hJk hY hJ0
 have vW := hv.keep0 hkW
 have mW := hm.keep hkW (fun e => e)
 have aW := vW.at
 have qW := Kp.refl W n_
 show Calls Tryz.prog _ #[.func (.yield L) #[] #[], .pointer (some ⟨b, 0, none⟩)] W _
 refine zaa (args := [.func (.yield L) #[] #[], .pointer (some ⟨b, 0, none⟩)]) Tryz.func204 rfl NL ?_; refine GW ?_
 refine KGO ?_
 refine RunV.rangeG Tryz.underlying165 mW fun w1 hr k1 z1 => ?_
 obtain ⟨rb, hrb⟩ : ∃ rb, W.heap.size = rb := ⟨_, rfl⟩
 rw [hrb] at hr hJk hY hJs ⊢
 refine KGO ?_
 have hmb : mb < rb := by have := mW.g.lt; omega
 have hJ1 : J [] w1 := hJk _ _ _ hJ0 k1.of_none
 refine Loop.intro (ι := List Int × GM Int) (fun _ => [(0, .func (.yield L) #[] #[]), (5, .pointer (some ⟨rb, 0, none⟩))])
  (fun i wr => J i.1 wr ∧ GRange (Value.int .i64) wr mb rb i.2 ∧ (i.1 ++ i.2.map (·.1)).Perm (m.map (·.1))) (fun i => i.2.length) ([], m) ⟨rfl, rfl, trivial⟩
  ⟨hJ1, hr, List.Perm.refl _⟩ ?_
 rintro ⟨pre, left⟩ gg wr ⟨hj, hg, hp⟩
 dsimp only at hj hg hp
 refine GW ?_
 refine KGO ?_
 refine RunV.nextG hg (fun hl w2 k2 z2 => ?_) (fun pa q po w2 hl hr2 k2 z2 hent => ?_)
 ·subst hl
  have hj2 := hJk _ _ _ hj k2.of_none
  refine KGO ?_
  exact ⟨⟨_, rfl⟩, .inl ⟨pre, by simpa using hp, hj2⟩⟩
 ·obtain ⟨q1, q2⟩ := q
  subst hl
  have hj2 := hJk _ _ _ hj k2
  refine KGO ?_
  refine RunV.of hent ?_
  refine KGO ?_
  have hp2 : (pre ++ q1 :: (pa ++ po).map (·.1)).Perm (m.map (·.1)) := by
   refine List.Perm.trans ?_ hp
   rw [List.map_append, List.map_append, List.map_cons]
   exact List.Perm.append_left pre List.perm_middle.symm
  have hsz := hr2.lt
  have hy := hY pre q1 w2 hj2 ⟨⟨_, hp2⟩, by omega⟩
  refine YieldS.of hy ?_
  rintro v wT (⟨rfl, hJT, hsame⟩ | ⟨rfl, hJT⟩)
  ·refine GW ?_
   refine KGO ?_
   exact ⟨(pre ++ [q1], pa ++ po), ⟨rfl, rfl, trivial⟩, ⟨hJT, GRange.same hr2 ((hJs _ _ hJT).2.trans (hJs _ _ hj2).2.symm) (hsame rb rfl), by simpa using hp2⟩, by simp⟩
  ·refine GW ?_
   refine KGO ?_
   exact ⟨⟨_, rfl⟩, .inr ⟨_, hJT⟩⟩
theorem znS {a b : List Int} (h : a.Perm b) : (a.mergeSort fun x y => decide (x ≤ y)) = b.mergeSort fun x y => decide (x ≤ y) := by
 have tr : ∀ x y z : Int, decide (x ≤ y) = true → decide (y ≤ z) = true → decide (x ≤ z) = true := fun x y z h1 h2 => by
  have := of_decide_eq_true h1; have := of_decide_eq_true h2; exact decide_eq_true (by omega)
 have tt : ∀ x y : Int, (decide (x ≤ y) || decide (y ≤ x)) = true := fun x y => by
  rcases Int.le_total x y with h | h <;> simp [h]
 refine List.Perm.eq_of_pairwise (le := fun x y => decide (x ≤ y) = true) (fun x y _ _ h1 h2 => by have := of_decide_eq_true h1; have := of_decide_eq_true h2; omega) (List.pairwise_mergeSort tr tt a) (List.pairwise_mergeSort tr tt b) (((List.mergeSort_perm _ _).trans h).trans (List.mergeSort_perm _ _).symm)
theorem mk_B {mb : Nat} : Calls Tryz.prog 145 #[.map (some mb)] w fun r w' => ∃ b, r = .returned (.func (.func 211) #[] #[.pointer (some ⟨b, 0, none⟩)]) ∧ VarK w' b 143 [.map (some mb)] ∧ Kp w w' n_ := by
 refine zaa (args := [.map (some mb)]) Tryz.func145 rfl NL ?_; refine GW ?_
 obtain ⟨a_b1, v_b1, k_w1, z_w1, r_w1⟩ := new5 w 143 ([.map (some mb)])
 generalize w.alloc (.cells (List.toArray ([.map (some mb)])) 143) = w1 at *
 generalize hs_b1 : w.heap.size = b1 at *
 refine KGO ?_
 exact ⟨b1, rfl, v_b1, k_w1⟩
theorem mk_L {mb : Nat} : Calls Tryz.prog 141 #[.map (some mb)] w fun r w' => ∃ b, r = .returned (.func (.func 204) #[] #[.pointer (some ⟨b, 0, none⟩)]) ∧ VarK w' b 165 [.map (some mb)] ∧ Kp w w' n_ := by
 refine zaa (args := [.map (some mb)]) Tryz.func141 rfl NL ?_; refine GW ?_
 obtain ⟨a_b1, v_b1, k_w1, z_w1, r_w1⟩ := new5 w 165 ([.map (some mb)])
 generalize w.alloc (.cells (List.toArray ([.map (some mb)])) 165) = w1 at *
 generalize hs_b1 : w.heap.size = b1 at *
 refine KGO ?_
 exact ⟨b1, rfl, v_b1, k_w1⟩
theorem ztr {gf mb : Nat} {lb : Array Value} {ks : List Int} (hgf : ∀ (args : Array Value) (w : World), (callFunc gf args).run Tryz.prog w = .ok (.enter gf args) w) (it : KeysIt gf lb mb ks w) (hmb : mb < w.heap.size) (hl : ks.length ≤ 1000000000) :
  Calls Tryz.prog 203 #[.func (.func gf) #[] lb] w fun r w' => ∃ v xs, r = .returned v ∧ xs.Perm ks ∧ OwnI w' w.heap.size v xs ∧ Kp w w' n_ := by
 refine zaa (args := [.func (.func gf) #[] lb]) Tryz.func203 rfl NL ?_; refine GW ?_
 refine CallS.of (Tryz.call237 _ _) (ztn (w := w) hgf it hmb hl) ?_
 rintro e w1 ⟨v, xs, rfl, hp, ho, k1⟩
 obtain ⟨a, c, rfl⟩ := zab ho
 refine RT ?_
 refine KGO ?_
 exact ⟨_, xs, rfl, hp, ho, k1⟩
theorem zrl {gf mb : Nat} {lb : Array Value} {ks : List Int} (hgf : ∀ (args : Array Value) (w : World), (callFunc gf args).run Tryz.prog w = .ok (.enter gf args) w) (it : KeysIt gf lb mb ks w) (hmb : mb < w.heap.size) (hl : ks.length ≤ 1000000000) :
  Calls Tryz.prog 140 #[.func (.func gf) #[] lb] w fun r w' => ∃ v, r = .returned v ∧ OwnI w' w.heap.size v (ks.mergeSort fun x y => decide (x ≤ y)) ∧ Kp w w' n_ := by
 refine zaa (args := [.func (.func gf) #[] lb]) Tryz.func140 rfl NL ?_; refine GW ?_
 refine CallS.of (Tryz.call203 _ _) (ztr (w := w) hgf it hmb hl) ?_
 rintro e w1 ⟨v, xs, rfl, hp, ho, k1⟩
 have hxl := hp.length_eq
 have hsort : (xs.mergeSort fun x y => decide (x ≤ y)) = ks.mergeSort fun x y => decide (x ≤ y) := znS hp
 obtain ⟨a, c, rfl⟩ := zab ho
 refine RT ?_
 refine KGO ?_
 refine CallS.of (Tryz.call79 _ _) (srt_I (w := w1) xs ho (by omega)) ?_
 rintro e w2 ⟨rfl, o2, k2⟩
 refine RT ?_
 refine KGO ?_
 rw [hsort] at o2
 exact ⟨_, rfl, o2, k1.trans k2 fun q hq e => (by exfalso; obtain ⟨_, _, _, hB, _⟩ := zas ho e; omega)⟩
end
abbrev Ky := Int × List UInt8
def hadE (es : List Ent) (e : Ent) : Bool := es.any fun x => decide (x.doc = e.doc) && decide (x.field = e.field)
def stepE (es : List Ent) (e : Ent) : List Ent := if countsE e = true ∧ hadE es e = false then es ++ [e] else es
def keptE (l : List Ent) : List Ent := l.foldl stepE []
theorem zlP (l : List Ent) (e : Ent) : keptE (l ++ [e]) = stepE (keptE l) e := by unfold keptE; rw [List.foldl_append]; rfl
theorem zeN {es : List Ent} {e : Ent} : hadE es e = true ↔ ∃ x ∈ es, x.doc = e.doc ∧ x.field = e.field := by
 unfold hadE; simp [List.any_eq_true]
structure Kept (es : List Ent) : Prop where
 ok : ∀ e ∈ es, countsE e = true
 sp : es.Pairwise fun a b => ¬ (a.doc = b.doc ∧ a.field = b.field)
theorem Kept.nil : Kept [] := ⟨(fun _ h => by cases h), List.Pairwise.nil⟩
theorem Kept.step {es : List Ent} (h : Kept es) (e : Ent) : Kept (stepE es e) := by
 unfold stepE
 split
 ·rename_i hc
  refine ⟨fun x hx => ?_, List.pairwise_append.2 ⟨h.sp, List.pairwise_singleton _ _, fun a ha b hb hab => ?_⟩⟩
  ·rcases List.mem_append.1 hx with hx | hx
   ·exact h.ok x hx
   ·rw [List.mem_singleton.1 hx]; exact hc.1
  ·rw [List.mem_singleton.1 hb] at hab
   have := zeN.2 ⟨a, ha, hab⟩
   rw [hc.2] at this; cases this
 ·exact h
theorem znf (l : List Ent) : ∀ es, Kept es → Kept (l.foldl stepE es) := by
 induction l with
 | nil => exact fun es h => h
 | cons e l ih => exact fun es h => ih _ (h.step e)
theorem zjc (l : List Ent) : Kept (keptE l) := znf l [] Kept.nil
theorem stepE_sub {es : List Ent} {e x : Ent} (h : x ∈ stepE es e) : x ∈ es ∨ x = e := by
 unfold stepE at h
 split at h
 ·rcases List.mem_append.1 h with h | h
  ·exact .inl h
  ·exact .inr (List.mem_singleton.1 h)
 ·exact .inl h
theorem kept_sub (l : List Ent) : ∀ es x, x ∈ l.foldl stepE es → x ∈ es ∨ x ∈ l := by
 induction l with
 | nil => exact fun es x h => .inl h
 | cons e l ih =>
  intro es x h
  rcases ih _ x h with h | h
  ·rcases stepE_sub h with h | h
   ·exact .inl h
   ·exact .inr (h ▸ List.mem_cons_self)
  ·exact .inr (List.mem_cons_of_mem _ h)
theorem znw {l : List Ent} {x : Ent} (h : x ∈ keptE l) : x ∈ l := by
 rcases kept_sub l [] x h with h | h
 ·cases h
 ·exact h
def posF (w : List UInt8) : Nat → List (List UInt8) → List Int
 | _, [] => []
 | i, x :: r => if x = w then (i : Int) :: posF w (i + 1) r else posF w (i + 1) r
theorem zjh (w x : List UInt8) : ∀ (i : Nat) (l : List (List UInt8)), posF w i (l ++ [x]) = posF w i l ++ if x = w then [((i + l.length : Nat) : Int)] else []
 | i, [] => by
  show (if x = w then _ else _) = _
  split <;> simp [posF]
 | i, y :: l => by
  show (if y = w then (i : Int) :: posF w (i + 1) (l ++ [x]) else posF w (i + 1) (l ++ [x])) = (if y = w then _ else _) ++ _
  rw [zjh w x (i + 1) l, List.length_cons, show i + 1 + l.length = i + (l.length + 1) by omega]
  split <;> rfl
theorem zhF (w : List UInt8) : ∀ (i : Nat) (l : List (List UInt8)), ∀ n ∈ posF w i l, (i : Int) ≤ n ∧ n < ((i + l.length : Nat) : Int)
 | i, [], n, h => by cases h
 | i, y :: l, n, h => by
  unfold posF at h
  rw [List.length_cons]
  split at h
  ·rcases List.mem_cons.1 h with rfl | h
   ·omega
   ·have := zhF w (i + 1) l n h; omega
  ·have := zhF w (i + 1) l n h; omega
theorem zhK (w : List UInt8) : ∀ (i : Nat) (l : List (List UInt8)), AscB ltI (posF w i l)
 | i, [] => .nil
 | i, y :: l => by
  unfold posF
  split
  ·exact List.Pairwise.cons (fun n hn => decide_eq_true (by have := zhF w (i + 1) l n hn; omega)) (zhK w (i + 1) l)
  ·exact zhK w (i + 1) l
theorem zhq (w : List UInt8) : ∀ (i : Nat) (l : List (List UInt8)), (posF w i l).length ≤ l.length
 | i, [] => Nat.le_refl _
 | i, y :: l => by
  unfold posF
  have := zhq w (i + 1) l
  split <;> simp <;> omega
theorem zkB (w : List UInt8) : ∀ (i : Nat) (l : List (List UInt8)), posF w i l ≠ [] → w ∈ l
 | i, [], h => absurd rfl h
 | i, y :: l, h => by
  unfold posF at h
  split at h
  ·rename_i e; rw [e]; exact List.mem_cons_self
  ·exact List.mem_cons_of_mem _ (zkB w (i + 1) l h)
def partE (ws : List (List UInt8)) (d f : Int) (k : Ky) (d' : Int) : List Int := if d' = d ∧ k.1 = f then posF k.2 0 ws else []
def placesE (es : List Ent) (k : Ky) (d : Int) : List Int := es.flatMap fun e => partE (wordsOf e.text) e.doc e.field k d
theorem zja (es : List Ent) (e : Ent) (k : Ky) (d : Int) : placesE (es ++ [e]) k d = placesE es k d ++ partE (wordsOf e.text) e.doc e.field k d := by
 unfold placesE; rw [List.flatMap_append]; simp
theorem znH (d f : Int) (k : Ky) (d' : Int) : partE [] d f k d' = [] := by unfold partE; split <;> rfl
def updF (f : Ky → Int → List Int) (k : Ky) (d : Int) (x : Int) : Ky → Int → List Int := fun k' d' => if k' = k ∧ d' = d then f k d ++ [x] else f k' d'
theorem zmJ (g : Ky → Int → List Int) (ws : List (List UInt8)) (i : Nat) (hi : i < ws.length) (d f : Int) :
  updF (fun k d' => g k d' ++ partE (ws.take i) d f k d') (f, ws[i]) d (i : Nat) = fun k d' => g k d' ++ partE (ws.take (i + 1)) d f k d' := by
 funext k d'
 obtain ⟨k1, k2⟩ := k
 unfold updF partE
 dsimp only
 rw [List.take_succ_eq_append_getElem hi, zjh, List.length_take, Nat.min_eq_left (by omega), Nat.zero_add]
 by_cases h1 : d' = d ∧ k1 = f
 ·obtain ⟨rfl, rfl⟩ := h1
  by_cases h2 : k2 = ws[i]
  ·subst h2; simp
  ·have e1 : ¬ ((k1, k2) = (k1, ws[i]) ∧ d' = d') := fun h => h2 (by injection h.1)
   have e2 : ¬ ws[i] = k2 := fun h => h2 h.symm
   simp [e2]
   exact fun h => absurd h h2
 ·have e1 : ¬ ((k1, k2) = (f, ws[i]) ∧ d' = d) := fun h => h1 ⟨h.2, by injection h.1⟩
  rw [if_neg e1, if_neg h1, if_neg h1]
theorem zbm {es : List Ent} (h : Kept es) (k : Ky) (d : Int) (hne : placesE es k d ≠ []) : ∃ e ∈ es, e.doc = d ∧ e.field = k.1 ∧ placesE es k d = posF k.2 0 (wordsOf e.text) ∧ k.2 ∈ wordsOf e.text := by
 induction es with
 | nil => exact absurd rfl hne
 | cons e es ih =>
  obtain ⟨h1, h2⟩ := List.pairwise_cons.1 h.sp
  have hk : Kept es := ⟨fun x hx => h.ok x (List.mem_cons_of_mem _ hx), h2⟩
  have hc : placesE (e :: es) k d = partE (wordsOf e.text) e.doc e.field k d ++ placesE es k d := by unfold placesE; rw [List.flatMap_cons]
  rw [hc] at hne ⊢
  by_cases hp : d = e.doc ∧ k.1 = e.field
  ·have h0 : placesE es k d = [] := by
    by_cases hz : placesE es k d = []
    ·exact hz
    ·obtain ⟨x, hx, hd, hf, _⟩ := ih hk hz
     exact absurd ⟨by omega, by rw [← hp.2, hf]⟩ (h1 x hx)
   rw [h0, List.append_nil] at hne ⊢
   have e1 : partE (wordsOf e.text) e.doc e.field k d = posF k.2 0 (wordsOf e.text) := if_pos hp
   rw [e1] at hne ⊢
   exact ⟨e, List.mem_cons_self, hp.1.symm, hp.2.symm, rfl, zkB _ _ _ hne⟩
  ·have e1 : partE (wordsOf e.text) e.doc e.field k d = [] := if_neg hp
   rw [e1, List.nil_append] at hne ⊢
   obtain ⟨x, hx, r⟩ := ih hk hne
   exact ⟨x, List.mem_cons_of_mem _ hx, r⟩
structure Built (s : Sgm) (es : List Ent) : Prop where
 right : rightS s = true
 docs : ∀ d, d ∈ s.docs ↔ ∃ e ∈ es, e.doc = d
 posts : ∀ k d, atD (postsT s.terms k) d = placesE es k d
theorem Built.uniq {s t : Sgm} {es : List Ent} (hs : Built s es) (ht : Built t es) : s = t :=
 zrK hs.right ht.right (zbu stoI _ _ (zan.1 hs.right).1.1 (zan.1 ht.right).1.1 fun z => (hs.docs z).trans (ht.docs z).symm)
  fun k => zig (zaK _ _) (zaK _ _) fun d => (hs.posts k d).trans (ht.posts k d).symm
abbrev sortL (l : List Int) : List Int := l.mergeSort fun x y => decide (x ≤ y)
theorem zqI (l : List Int) : (sortL l).Pairwise (· ≤ ·) := by
 refine (List.pairwise_mergeSort (le := fun x y : Int => decide (x ≤ y)) (fun a b c h1 h2 => ?_) (fun a b => ?_) l).imp fun h => of_decide_eq_true h
 ·have := of_decide_eq_true h1; have := of_decide_eq_true h2; exact decide_eq_true (by omega)
 ·rcases Int.le_total a b with h | h <;> simp [h]
theorem zhJ {l : List Int} (h : l.Nodup) : (sortL l).Pairwise (· < ·) := by
 have h1 := zqI l
 have h2 : (sortL l).Nodup := (List.mergeSort_perm l _).nodup_iff.2 h
 exact (h1.and h2).imp fun h => by have := h.1; have := h.2; omega
theorem zbI {l : List Int} {x : Int} : x ∈ sortL l ↔ x ∈ l := List.mem_mergeSort
def postG (g : Ky → Int → List Int) (p : Ky × List Int) : List Pst := (sortL p.2).map fun d => ⟨d, g p.1 d⟩
def tmOf (g : Ky → Int → List Int) (p : Ky × List Int) : Trm := ⟨p.1.1, p.1.2, encP (postG g p)⟩
theorem znX (f : Int → List Int) (d : Int) : ∀ l : List Int, atD (l.map fun d => (⟨d, f d⟩ : Pst)) d = if d ∈ l then f d else []
 | [] => rfl
 | x :: l => by
  rw [List.map_cons, zaM, znX f d l]
  by_cases h : x = d
  ·subst h; simp
  ·have h2 : ¬ d = x := fun e => h e.symm
   simp [h, h2]
theorem zlz {es : List Ent} (hk : Kept es) (htx : ∀ e ∈ es, e.text.length ≤ 1000000000) (kl : List (Ky × List Int)) (hnd : (kl.map (·.1)).Nodup)
  (hno : ∀ k, k ∉ kl.map (·.1) → ∀ d, placesE es k d = []) (hin : ∀ p ∈ kl, p.2.Nodup ∧ p.2 ≠ [] ∧ ∀ d, d ∈ p.2 ↔ placesE es p.1 d ≠ [])
  {ts : List Trm} (hp : ts.Perm (kl.map (tmOf (placesE es)))) (hs : ts.Pairwise fun a b => ltK b.key a.key = false)
  {dl : List Int} (hdn : dl.Nodup) (hd : ∀ d, d ∈ dl ↔ ∃ e ∈ es, e.doc = d) : Built ⟨ts, sortL dl⟩ es := by
 have hcount : ∀ e ∈ es, 1 ≤ e.doc ∧ e.doc ≤ 1099511627776 ∧ 1 ≤ e.field ∧ e.field ≤ 5 := fun e he => by
  have := hk.ok e he
  unfold countsE at this
  simp only [Bool.and_eq_true, decide_eq_true_eq] at this
  omega
 have hpl : ∀ k d, placesE es k d ≠ [] → (1 ≤ d ∧ d ≤ 1099511627776) ∧ (1 ≤ k.1 ∧ k.1 ≤ 5) ∧ wordsOf k.2 = [k.2] ∧ AscB ltI (placesE es k d) ∧ (∀ n ∈ placesE es k d, 0 ≤ n ∧ n ≤ 1099511627776) ∧ d ∈ sortL dl := fun k d hne => by
  obtain ⟨e, he, h1, h2, h3, h4⟩ := zbm hk k d hne
  have hc := hcount e he
  have hw : (wordsOf e.text).length ≤ 2 * e.text.length + 1 := by unfold wordsOf; rw [List.length_map]; exact zev _
  have ht := htx e he
  refine ⟨by omega, by omega, ?_, h3 ▸ zhK _ _ _, fun n hn => ?_, zbI.2 ((hd d).2 ⟨e, he, h1⟩)⟩
  ·obtain ⟨x, hx, e1⟩ := List.mem_map.1 h4
   have := zlH (zfq _ x hx)
   rw [e1] at this
   unfold wordsOf; rw [this]; rfl
  ·rw [h3] at hn
   have := zhF _ _ _ n hn; omega
 have hP : ∀ p ∈ kl, rightP (postG (placesE es) p) = true := fun p hp => by
  obtain ⟨i1, i2, i3⟩ := hin p hp
  refine zaA.2 ⟨?_, fun x hx => ?_⟩
  ·unfold postG AscP
   rw [List.pairwise_map]
   exact zhJ i1
  ·obtain ⟨d, hd2, rfl⟩ := List.mem_map.1 hx
   have hne := (i3 d).1 (zbI.1 hd2)
   obtain ⟨j1, j2, j3, j4, j5, j6⟩ := hpl _ _ hne
   exact ⟨j1.1, j1.2, hne, j4, j5⟩
 have hPne : ∀ p ∈ kl, postG (placesE es) p ≠ [] := fun p hp e => by
  obtain ⟨i1, i2, i3⟩ := hin p hp
  have : sortL p.2 = [] := List.map_eq_nil_iff.1 e
  obtain ⟨d, hd⟩ := List.exists_mem_of_ne_nil _ i2
  have h := zbI.2 hd
  rw [this] at h; cases h
 have hkey : (ts.map Trm.key).Perm (kl.map (·.1)) := by
  have := hp.map Trm.key
  rw [List.map_map] at this
  exact this
 have hasc : AscK ts := by
  have h2 : (ts.map Trm.key).Nodup := hkey.nodup_iff.2 hnd
  have h2 : ts.Pairwise fun a b => a.key ≠ b.key := List.pairwise_map.1 h2
  refine (hs.and h2).imp fun {a b} h => ?_
  cases hq : ltK a.key b.key with
  | true => rfl
  | false => exact absurd (stoK.tri _ _ hq h.1) h.2
 have hmem : ∀ t, t ∈ ts ↔ ∃ p ∈ kl, tmOf (placesE es) p = t := fun t => by rw [hp.mem_iff, List.mem_map]
 have hposts : ∀ k d, atD (postsT ts k) d = placesE es k d := fun k d => by
  by_cases hkk : k ∈ kl.map (·.1)
  ·obtain ⟨p, hp, rfl⟩ := List.mem_map.1 hkk
   have hm := (hmem _).2 ⟨p, hp, rfl⟩
   have e1 := zcB ts hasc _ hm
   rw [show (tmOf (placesE es) p).key = p.1 from rfl] at e1
   rw [e1, show plT (tmOf (placesE es) p) = postG (placesE es) p from zly (hP p hp)]
   unfold postG
   rw [znX (fun d => placesE es p.1 d) d]
   split
   ·rfl
   ·rename_i h
    by_cases hz : placesE es p.1 d = []
    ·exact hz.symm
    ·exact absurd (zbI.2 (((hin p hp).2.2 d).2 hz)) h
  ·rw [hno k hkk d]
   by_cases hz : postsT ts k = []
   ·rw [hz]; rfl
   ·obtain ⟨t, ht, e, _⟩ := zeM hz
    obtain ⟨p, hp, rfl⟩ := (hmem t).1 ht
    exact absurd (List.mem_map.2 ⟨p, hp, e⟩) hkk
 refine ⟨zan.2 ⟨⟨?_, fun n hn => ?_⟩, fun t ht => ?_, hasc⟩, fun d => zbI.trans (hd d), hposts⟩
 ·exact (zhJ hdn).imp fun h => decide_eq_true h
 ·obtain ⟨e, he, rfl⟩ := (hd n).1 (zbI.1 hn)
  have := hcount e he; omega
 ·obtain ⟨p, hp, rfl⟩ := (hmem t).1 ht
  obtain ⟨i1, i2, i3⟩ := hin p hp
  obtain ⟨d, hd2⟩ := List.exists_mem_of_ne_nil _ i2
  obtain ⟨j1, j2, j3, j4, j5, j6⟩ := hpl _ _ ((i3 d).1 hd2)
  unfold okTerm
  rw [Bool.and_eq_true, Bool.and_eq_true]
  refine ⟨⟨decide_eq_true j2, decide_eq_true j3⟩, ?_⟩
  unfold okList
  rw [show decP (tmOf (placesE es) p).list = some (postG (placesE es) p) from zed (hP p hp)]
  dsimp only
  rw [Bool.and_eq_true, List.all_eq_true]
  refine ⟨by cases hl : postG (placesE es) p with | nil => exact absurd hl (hPne p hp) | cons => rfl, fun x hx => decide_eq_true ?_⟩
  obtain ⟨d', hd', rfl⟩ := List.mem_map.1 hx
  exact (hpl _ _ ((i3 d').1 (zbI.1 hd'))).2.2.2.2.2
def dS (s : Sgm) (d : Int) : Prop := d ∈ (validS s).docs
def pS (s : Sgm) (k : Ky) (d : Int) : List Int := atD (postsT (validS s).terms k) d
theorem zgC (s : Sgm) (k : Ky) (d : Int) : AscB ltI (pS s k d) := (zee (zaK _ _) d).1
theorem ztl (a b : Sgm) (dead : List Int) (d : Int) : dS (twoS a b dead) d ↔ (dS a d ∨ dS b d) ∧ d ∉ dead := by
 unfold dS; rw [zaV (zcw a b dead)]; exact zeo a b dead d
theorem znb (a b : Sgm) (dead : List Int) (k : Ky) (d : Int) : pS (twoS a b dead) k d = if d ∈ dead then [] else unI (pS a k d) (pS b k d) := by
 unfold pS
 rw [zaV (zcw a b dead), zpa, zhR, zhD (zaK _ _) (zaK _ _)]
theorem zcX : rightS ⟨[], []⟩ = true := by rfl
theorem zrm (k : Ky) (d : Int) : pS ⟨[], []⟩ k d = [] := by unfold pS; rw [zaV zcX]; rfl
def okK (field : Int) (p : List UInt8 → Bool) (k : Ky) : Bool := (decide (field = 0) || decide (field = k.1)) && p k.2
theorem ziU : ∀ (l : List Trm) (o : List Pst), rightP o = true → rightP (l.foldl (fun o t => orP o (plT t)) o) = true ∧ ∀ d z, z ∈ atD (l.foldl (fun o t => orP o (plT t)) o) d ↔ z ∈ atD o d ∨ ∃ t ∈ l, z ∈ atD (plT t) d
 | [], o, h => ⟨h, fun d z => by simp⟩
 | t :: l, o, h => by
  obtain ⟨h1, h2⟩ := ziU l (orP o (plT t)) (zdI h (zcm t))
  refine ⟨h1, fun d z => ?_⟩
  rw [List.foldl_cons, h2 d z, zhD h (zcm t), zcj (zee h d).1 (zee (zcm t) d).1]
  constructor
  ·rintro ((h | h) | ⟨x, hx, h⟩)
   ·exact .inl h
   ·exact .inr ⟨t, List.mem_cons_self, h⟩
   ·exact .inr ⟨x, List.mem_cons_of_mem _ hx, h⟩
  ·rintro (h | ⟨x, hx, h⟩)
   ·exact .inl (.inl h)
   ·rcases List.mem_cons.1 hx with rfl | hx
    ·exact .inl (.inr h)
    ·exact .inr ⟨x, hx, h⟩
theorem zfD (s : Sgm) (field : Int) (p : List UInt8 → Bool) : rightP (lookS s field p) = true ∧ ∀ d z, z ∈ atD (lookS s field p) d ↔ ∃ k, okK field p k = true ∧ z ∈ pS s k d := by
 unfold lookS
 by_cases hr : rightS s = true
 ·rw [if_pos hr]
  have hasc := (zan.1 hr).2.2
  obtain ⟨h1, h2⟩ := ziU (s.terms.filter fun t => (decide (field = 0) || decide (field = t.field)) && p t.word) [] rfl
  refine ⟨h1, fun d z => (h2 d z).trans ?_⟩
  unfold pS
  rw [zaV hr]
  constructor
  ·rintro (h | ⟨t, ht, h⟩)
   ·cases h
   ·obtain ⟨ht, hc⟩ := List.mem_filter.1 ht
    exact ⟨t.key, hc, by rw [zcB _ hasc t ht]; exact h⟩
  ·rintro ⟨k, hk, h⟩
   have hne : postsT s.terms k ≠ [] := fun e => by rw [e] at h; cases h
   obtain ⟨t, ht, rfl, e⟩ := zeM hne
   exact .inr ⟨t, List.mem_filter.2 ⟨ht, hk⟩, by rw [e]; exact h⟩
 ·rw [if_neg hr]
  refine ⟨rfl, fun d z => ⟨fun h => ?_, fun h => ?_⟩⟩
  ·cases h
  ·obtain ⟨k, hk, h⟩ := h
   unfold pS validS at h
   rw [if_neg hr] at h; cases h
theorem zjx (a b : List Ent) (e : Ent) : hadE (a ++ b) e = (hadE a e || hadE b e) := by unfold hadE; rw [List.any_append]
theorem zcJ (a b : List Ent) (k : Ky) (d : Int) : placesE (a ++ b) k d = placesE a k d ++ placesE b k d := by unfold placesE; rw [List.flatMap_append]
theorem zaX {α : Type} [DecidableEq α] : ∀ (l m : List α), l.Nodup → (∀ x ∈ l, x ∈ m) → l.length ≤ m.length
 | [], m, _, _ => Nat.zero_le _
 | x :: l, m, h, hs => by
  obtain ⟨h1, h2⟩ := List.nodup_cons.1 h
  have hx := hs x List.mem_cons_self
  have ih := zaX l (m.erase x) h2 fun y hy => (List.mem_erase_of_ne (fun e : y = x => h1 (e ▸ hy))).2 (hs y (List.mem_cons_of_mem _ hy))
  rw [List.length_erase_of_mem hx] at ih
  have := List.length_pos_of_mem hx
  rw [List.length_cons]; omega
theorem zkP {α β : Type} (f : α → List β) (n : Nat) : ∀ l : List α, (∀ x ∈ l, (f x).length ≤ n) → (l.flatMap f).length ≤ l.length * n
 | [], _ => by simp
 | x :: l, h => by
  rw [List.flatMap_cons, List.length_append, List.length_cons, Nat.succ_mul]
  have := h x List.mem_cons_self
  have := zkP f n l fun y hy => h y (List.mem_cons_of_mem _ hy)
  omega
theorem zks (m : Nat) : ∀ l : List Pst, (∀ p ∈ l, p.places.length ≤ m) → cntP l ≤ l.length * (m + 2)
 | [], _ => by simp [cntP, encN]
 | p :: l, h => by
  rw [cnt_cons, List.length_cons, Nat.succ_mul]
  have := h p List.mem_cons_self
  have := zks m l fun y hy => h y (List.mem_cons_of_mem _ hy)
  omega
theorem zbd (t : List UInt8) : (wordsOf t).length ≤ 2 * t.length + 1 := by unfold wordsOf; rw [List.length_map]; exact zev _
theorem zky {s : Sgm} {es : List Ent} (h : Built s es) (hk : Kept es) {n m : Nat} (hn : es.length ≤ n) (hm : ∀ e ∈ es, 2 * e.text.length + 1 ≤ m) : Bd s n (n * m) (n * (m + 2)) := by
 obtain ⟨r1, r2, r3⟩ := zan.1 h.right
 have hdn : ∀ l : List Int, AscB ltI l → l.Nodup := fun l hl => by
  unfold AscB at hl
  exact hl.imp fun h => by have := of_decide_eq_true h; omega
 have hkn : (s.terms.map Trm.key).Nodup := List.pairwise_map.2 (r3.imp fun h => zdH h)
 have hkey : ∀ t ∈ s.terms, ∃ e ∈ es, e.field = t.key.1 ∧ t.key.2 ∈ wordsOf e.text := fun t ht => by
  have hp := zcB s.terms r3 t ht
  obtain ⟨ne, _⟩ := zcW (r2 t ht)
  obtain ⟨p, hp2⟩ := List.exists_mem_of_ne_nil _ ne
  have hr := zcm t
  have h1 := zcM (zbg hr) hp2
  have h2 := (zaA.1 hr).2 p hp2
  have h3 : placesE es t.key p.doc ≠ [] := by rw [← h.posts, hp, h1]; exact h2.2.2.1
  obtain ⟨e, he, _, e2, _, e4⟩ := zbm hk _ _ h3
  exact ⟨e, he, e2, e4⟩
 refine ⟨?_, ?_, fun z hz => ?_⟩
 ·have := zaX s.docs (es.map (·.doc)) (hdn _ r1.1) fun d hd => by
   obtain ⟨e, he, hd⟩ := (h.docs d).1 hd
   exact List.mem_map.2 ⟨e, he, hd⟩
  rw [List.length_map] at this; omega
 ·have h1 := zaX (s.terms.map Trm.key) (es.flatMap fun e => (wordsOf e.text).map fun w => (e.field, w)) hkn fun k hk2 => by
   obtain ⟨t, ht, rfl⟩ := List.mem_map.1 hk2
   obtain ⟨e, he, e2, e4⟩ := hkey t ht
   exact List.mem_flatMap.2 ⟨e, he, List.mem_map.2 ⟨_, e4, by rw [e2]⟩⟩
  have h2 := zkP (fun e : Ent => (wordsOf e.text).map fun w => (e.field, w)) m es fun e he => by
   rw [List.length_map]; exact Nat.le_trans (zbd _) (hm e he)
  rw [List.length_map] at h1
  exact Nat.le_trans h1 (Nat.le_trans h2 (Nat.mul_le_mul_right _ hn))
 ·have hr := zcm z
  have hp := zcB s.terms r3 z hz
  have hc : cntP (plT z) ≤ n * (m + 2) := by
   have h1 := zks m (plT z) fun p hp2 => by
    have h1 := zcM (zbg hr) hp2
    have h2 := (zaA.1 hr).2 p hp2
    have h3 : placesE es z.key p.doc = p.places := by rw [← h.posts, hp, h1]
    obtain ⟨e, he, _, _, e3, _⟩ := zbm hk _ _ (by rw [h3]; exact h2.2.2.1)
    rw [← h3, e3]
    exact Nat.le_trans (zhq _ _ _) (Nat.le_trans (zbd _) (hm e he))
   have h4 : (plT z).length ≤ n := by
    have h2 := zaX ((plT z).map (·.doc)) (es.map (·.doc)) (hdn _ (zdS.1 (zbg hr))) fun d hd => by
     obtain ⟨p, hp2, rfl⟩ := List.mem_map.1 hd
     have h1 := zcM (zbg hr) hp2
     have h2 := (zaA.1 hr).2 p hp2
     have h3 : placesE es z.key p.doc = p.places := by rw [← h.posts, hp, h1]
     obtain ⟨e, he, e1, _⟩ := zbm hk _ _ (by rw [h3]; exact h2.2.2.1)
     exact List.mem_map.2 ⟨e, he, e1⟩
    rw [List.length_map, List.length_map] at h2; omega
   exact Nat.le_trans h1 (Nat.mul_le_mul_right _ h4)
  obtain ⟨e, he, e2, e4⟩ := hkey z hz
  refine ⟨?_, ?_, hc⟩
  ·obtain ⟨x, hx, e1⟩ := List.mem_map.1 e4
   have := zjZ (zfq _ x hx)
   rw [e1] at this
   have : z.word.length ≤ 40 := this
   omega
  ·rw [(zcW (r2 z hz)).2]
   have := zdr (plT z)
   unfold cntP at hc
   omega
theorem zcS {l : List Int} {i : Nat} (h : pickL l = some i) : i + 1 < l.length := by
 have := zjn l _ i h; omega
end Go.Proofs.YtennokckmjcefaaGreatDoor
