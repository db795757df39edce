/- Helper text of this claim: lemmas and contracts that the proved statement rests on; no conditions of its own. -/
import Derived.Test.YtohhkegmbgancaaGreatDoorGMapG
namespace Go.Proofs.YtohhkegmbgancaaGreatDoor
set_option maxHeartbeats 4000000
open Go.RowKit Go.Pw Go.Vc Go.Cs Go.Lib
set_option linter.unusedVariables false
set_option maxRecDepth 100000
def locCells (p : Int × List UInt8) : List Value := [.int .i64 p.1, .string (str p.2)]
def encLoc (p : Int × List UInt8) : Value := .agg (locCells p).toArray
theorem locFields : ∃ a b, (Tryz.prog.fieldsOf 131).toList = [a, b] ∧ a.name ≠ "_" ∧ b.name ≠ "_" ∧ a.type = 3 ∧ b.type = 9 ∧ a.offset = 0 ∧ b.offset = 1 :=
 ⟨_, _, rfl, by decide, by decide, rfl, rfl, rfl, rfl⟩
theorem zdM (x y : List UInt8) : ((str x).toList == (str y).toList) = decide (x = y) := by
 rw [zdN]
 by_cases h : x = y
 ·simp [h]
 ·have : str x ≠ str y := fun e => h (by have := congrArg L e; rwa [L_str, L_str] at this)
  simp [h, this]
theorem zpG (x y : Int × List UInt8) (w : World) : (Op.equalIn (9999 + 1) 131 (encLoc x) (encLoc y)).run Tryz.prog w = .ok (decide (x = y)) w := by
 unfold encLoc
 rw [run_equalIn_agg w 9999 131 _ _ (by rfl) (by kernel_rfl)]
 obtain ⟨a, b, hf, na, nb, ta, tb, oa, ob⟩ := locFields
 rw [hf]
 simp only [Op.eqFields, na, nb, ne_eq, not_false_eq_true, if_true, ta, tb, oa, ob]
 have p0 : (part 3 (locCells x).toArray 0).run Tryz.prog w = .ok (.int .i64 x.1) w := by rfl
 have p1 : (part 9 (locCells x).toArray 1).run Tryz.prog w = .ok (.string (str x.2)) w := by rfl
 have q0 : (part 3 (locCells y).toArray 0).run Tryz.prog w = .ok (.int .i64 y.1) w := by rfl
 have q1 : (part 9 (locCells y).toArray 1).run Tryz.prog w = .ok (.string (str y.2)) w := by rfl
 have i1 (a b : Int) : (Op.equalIn (9998 + 1) 3 (.int .i64 a) (.int .i64 b)).run Tryz.prog w = .ok (a == b) w := run_equalIn_int w 9998 3 .i64 .i64 a b (by rfl)
 have i2 (a b : ByteArray) : (Op.equalIn (9998 + 1) 9 (.string a) (.string b)).run Tryz.prog w = .ok (a.toList == b.toList) w := run_equalIn_string w 9998 9 a b (by rfl)
 simp only [Sem.run_bind, Sem.run_ite, p0, p1, q0, q1, i1, i2, Result.andThen_ok]
 obtain ⟨x1, x2⟩ := x
 obtain ⟨y1, y2⟩ := y
 dsimp only
 rw [zdM]
 by_cases h1 : x1 = y1 <;> by_cases h2 : x2 = y2 <;> simp [h1, h2]
theorem keyLoc : KeyOk Tryz.prog 131 encLoc := zkw Tryz.underlying131 (fun _ _ => rfl) (fun w a b => zpG a b w) (fun e k w => by
  show (Instr.checkKey e (9999 + 1) 131 (.agg (locCells k).toArray)).run Tryz.prog w = _
  have p0 : (part 3 (locCells k).toArray 0).run Tryz.prog w = .ok (.int .i64 k.1) w := by rfl
  have p1 : (part 9 (locCells k).toArray 1).run Tryz.prog w = .ok (.string (str k.2)) w := by rfl
  have c0 : ∀ z, (Instr.checkKey e 9999 3 (.int .i64 z)).run Tryz.prog w = .ok () w := fun z => by
   show (Instr.checkKey e (9998 + 1) 3 _).run Tryz.prog w = _
   unfold Instr.checkKey
   simp [zaG Tryz.underlying3]
  have c1 : ∀ s, (Instr.checkKey e 9999 9 (.string s)).run Tryz.prog w = .ok () w := fun s => by
   show (Instr.checkKey e (9998 + 1) 9 _).run Tryz.prog w = _
   unfold Instr.checkKey
   simp [zaG Tryz.underlying9]
  unfold Instr.checkKey
  simp [zaG Tryz.underlying131, p0, p1, c0, c1]) (fun k => by simp [encLoc, locCells, Instr.sameBits, zgm])
theorem keyInt : KeyOk Tryz.prog 3 (Value.int .i64) := zlJ Tryz.underlying3
def encS (s : List UInt8) : Value := .string (str s)
theorem keyStr : KeyOk Tryz.prog 9 encS where
 check e k w := (zhz Tryz.underlying9).check e (str k) w
 find := zgJ Tryz.underlying9 fun a b => by
  show some (str a == str b) = _
  rw [zgm]
  congr 1
  rw [Bool.eq_iff_iff, decide_eq_true_eq, decide_eq_true_eq, zcU]
 bits k := (zhz Tryz.underlying9).bits (str k)
def upsM (l : List Bx) : GM Int := l.map fun b => (b.id, .int .i64 b.up)
def locM (l : List Bx) : GM (Int × List UInt8) := l.map fun b => ((b.up, foldL b.name), .int .i64 b.id)
theorem zcJ (id : Int) : ∀ l, (upsM l).get id = (upOf l id).map (Value.int .i64)
 | [] => rfl
 | b :: l => by
  show GM.get ((b.id, .int .i64 b.up) :: upsM l) id = _
  unfold GM.get upOf
  by_cases h : id = b.id
  ·rw [if_pos h, List.find?_cons_of_pos (by simp [h])]; rfl
  ·rw [if_neg h, List.find?_cons_of_neg (by simp; exact fun e => h e.symm), zcJ id l]; rfl
theorem zcm (u : Int) (nm : List UInt8) : ∀ l, (locM l).get (u, nm) = (kid l u nm).map (Value.int .i64)
 | [] => rfl
 | b :: l => by
  show GM.get (((b.up, foldL b.name), .int .i64 b.id) :: locM l) (u, nm) = _
  unfold GM.get kid
  by_cases h : (u, nm) = (b.up, foldL b.name)
  ·rw [if_pos h, List.find?_cons_of_pos (by simp at h; simp [h])]; rfl
  ·rw [if_neg h, List.find?_cons_of_neg (by simp at h; simp; exact fun e1 e2 => h e1.symm e2.symm), zcm u nm l]; rfl
theorem _root_.Go.Vc.GM.put_new {κ : Type} [DecidableEq κ] {m : GM κ} {k : κ} (h : m.get k = none) (x : Value) : m.put k x = m ++ [(k, x)] := by
 have h1 := GM.idx_get k m 0
 rw [h] at h1
 exact (GM.idx_none k m 0 (Option.map_eq_none_iff.1 h1)).2.1 x
theorem zji {l : List Bx} {u : Int} {nm : List UInt8} : kid l u nm = none ↔ ∀ b ∈ l, ¬ (b.up = u ∧ foldL b.name = nm) := by
 unfold kid
 rw [Option.map_eq_none_iff, List.find?_eq_none]
 simp
def UsedM (l : List Bx) (m : GM (List UInt8)) : Prop := ∀ r, (∃ x : Int, x ≠ 0 ∧ m.get r = some (.int .i64 x) ∧ ∃ b ∈ l, b.role = r) ∨ (m.get r = none ∧ ∀ b ∈ l, b.role ≠ r)
theorem UsedM.put {l : List Bx} {m : GM (List UInt8)} (h : UsedM l m) (b : Bx) (hb : b.id ≠ 0) : UsedM (l ++ [b]) (m.put b.role (.int .i64 b.id)) := fun r => by
 rw [GM.get_put]
 by_cases e : r = b.role
 ·left
  rw [if_pos e]
  exact ⟨b.id, hb, rfl, b, by simp, e.symm⟩
 ·rw [if_neg e]
  rcases h r with ⟨x, h1, h2, c, hc, h3⟩ | ⟨h1, h2⟩
  ·exact .inl ⟨x, h1, h2, c, by simp [hc], h3⟩
  ·refine .inr ⟨h1, fun c hc => ?_⟩
   rcases List.mem_append.1 hc with hc | hc
   ·exact h2 c hc
   ·rw [List.mem_singleton.1 hc]; exact fun q => e q.symm
section
variable {w : World}
theorem zoh {bm : Nat} (l : List Bx) (id : Int) (hm : GMap (Value.int .i64) w bm (upsM l)) (h0 : id ≠ 0) (hl : l.length ≤ 1000) : Calls Tryz.prog 102 #[.map (some bm), .int .i64 id] w fun e w' => e = .returned (.int .i64 ((dep l l.length id).getD 0 : Nat)) ∧ Kp w w' n_ := by
 have hlen : (upsM l).length = l.length := by unfold upsM; rw [List.length_map]
 have zi : (zeroValue 3).run Tryz.prog w = .ok (.int .i64 0) w := Tryz.zeroValue3 w
 refine zaa (args := [.map (some bm), .int .i64 id]) Tryz.func102 rfl NL ?_; refine GW ?_
 refine Loop.intro (ι := Nat × Int) (fun p => [(0, .map (some bm)), (1, .int .i64 p.2), (5, .int .i64 ((p.1 : Nat) + 1 : Int))])
  (fun p wr => Kp w wr n_ ∧ p.1 ≤ l.length ∧ p.2 ≠ 0 ∧ (dep l l.length id).getD 0 = ((dep l (l.length - p.1) p.2).map (· + p.1)).getD 0) (fun p => l.length - p.1) (0, id) ⟨rfl, rfl, rfl, trivial⟩
  ⟨Kp.refl _ _, Nat.zero_le _, h0, by dsimp only; rw [Nat.sub_zero]; cases dep l l.length id <;> rfl⟩ ?_
 rintro ⟨n, x⟩ g wr ⟨hK, hn, hx, he⟩
 dsimp only at hn hx he ⊢
 have zi : (zeroValue 3).run Tryz.prog wr = .ok (.int .i64 0) wr := Tryz.zeroValue3 wr
 refine GW ?_
 refine RunN.lenG Tryz.underlying126 (hm.keep hK fun h => h) ?_
 refine GW ?_
 by_cases hlt : n < l.length
 ·obtain ⟨f, hf⟩ : ∃ f, l.length - n = f + 1 := ⟨l.length - n - 1, by omega⟩
  rw [hf, dep, if_neg hx] at he
  refine KGO ?_
  refine RunV.lookG2 keyInt Tryz.underlying126 zi (hm.keep hK fun h => h) x rfl ?_
  rw [zcJ]
  cases hu : upOf l x with
  | none =>
   rw [hu] at he
   dsimp only at he
   refine KGO ?_
   exact ⟨by rw [he]; rfl, hK⟩
  | some u =>
   rw [hu] at he
   dsimp only at he
   by_cases hu0 : u = 0
   ·subst hu0
    refine KGO ?_
    refine ⟨zaH ?_, hK⟩
    rw [he]
    have : dep l f 0 = some 0 := by cases f <;> rfl
    rw [this]
    show ((n : Nat) : Int) + 1 = ((0 + 1 + n : Nat) : Int)
    omega
   ·refine KGO ?_
    refine ⟨(n + 1, u), ⟨rfl, rfl, v_int (by dsimp only; omega), trivial⟩, ⟨hK, by dsimp only; omega, hu0, ?_⟩, by dsimp only; omega⟩
    dsimp only
    rw [he, show l.length - (n + 1) = f by omega]
    cases dep l f u with
    | none => rfl
    | some d => show d + 1 + n = d + (n + 1); omega
 ·refine KGO ?_
  refine ⟨zaH ?_, hK⟩
  rw [he, show l.length - n = 0 by omega, dep, if_neg hx]; rfl
end
theorem znd (l : List Bx) (b : Bx) (h0 : b.id ≠ 0) : deepB l b = true ↔ 1 ≤ (dep l l.length b.id).getD 0 ∧ (dep l l.length b.id).getD 0 ≤ 8 := by
 unfold deepB
 cases hd : dep l l.length b.id with
 | none => simp
 | some d =>
  have h1 := ((zbZ _ _ _ _).1 hd).1
  have : d ≠ 0 := fun e => by rw [e] at h1; exact h0 h1
  simp only [decide_eq_true_eq, Option.getD_some]
  omega
theorem zaM {w w' : World} {b o : Nat} {vs : List Value} {c : Nat → Prop} (h : At w b o vs) (k : Kp w w' c) (hc : ¬ c b) : At w' b o vs := fun i v hi => by
 have := h i v hi
 rw [k.cell (cell_lt this) hc]; exact this
theorem zlK {l : List Bx} {u j : Int} {nm : List UInt8} (h : kid l u nm = some j) : ∃ b ∈ l, b.up = u ∧ foldL b.name = nm ∧ b.id = j := by
 unfold kid at h
 cases hf : l.find? fun c => decide (c.up = u ∧ foldL c.name = nm) with
 | none => rw [hf] at h; cases h
 | some c =>
  rw [hf] at h
  have h1 := List.find?_some hf
  simp only [decide_eq_true_eq] at h1
  exact ⟨c, List.mem_of_find?_eq_some hf, h1.1, h1.2, by simpa using h⟩
section
variable {w : World}
theorem zhw (a : Int) (s : ByteArray) (w : World) : (Instr.build 131 [(0, .int .i64 a), (1, .string s)].toArray).run Tryz.prog w = .ok (.agg #[.int .i64 a, .string s]) w := by
 simp [Instr.build, Instr.fill, go_sem, Tryz.runUnderlying131]
theorem zdJ {v : Value} (l : List Bx) (hv : RowB w v l) (hl : l.length ≤ 1000) (hs : ∀ b ∈ l, b.name.length ≤ 1000000 ∧ b.role.length ≤ 1000000) (hF : FoldTab w) (hT : Tabs w) (hR : RolesTab w) :
  Calls Tryz.prog 44 #[v] w fun e w' => e = .returned (.bool (rightL l)) ∧ Kp w w' n_ := by
 have hv0 := hv
 obtain ⟨a, cap, rfl, hr⟩ := hv
 refine zaa (args := [.slice a l.length cap]) Tryz.func44 rfl NL ?_; refine GW ?_
 by_cases hlen : 64 < l.length
 ·refine KGO ?_
  exact ⟨zad (by unfold rightL; rw [decide_eq_false (by omega)]; rfl), Kp.refl _ _⟩
 refine KGO ?_
 refine RunV.makeMap rfl ?_
 have m1 : GMap (Value.int .i64) (w.alloc (.map #[] 0)) w.heap.size ([] : GM Int) := GMap.new w
 have k1 : Kp w (w.alloc (.map #[] 0)) n_ := (Kp.refl _ _).alloc _
 have z1 : (w.alloc (.map #[] 0)).heap.size = w.heap.size + 1 := by simp
 generalize hb1 : w.heap.size = b1 at *
 generalize w.alloc (.map #[] 0) = w1 at *
 refine KGO ?_
 refine RunV.makeMap rfl ?_
 have m2 : GMap encLoc (w1.alloc (.map #[] 0)) w1.heap.size ([] : GM (Int × List UInt8)) := GMap.new w1
 have k2 : Kp w1 (w1.alloc (.map #[] 0)) n_ := (Kp.refl _ _).alloc _
 have z2 : (w1.alloc (.map #[] 0)).heap.size = w1.heap.size + 1 := by simp
 have m1 := m1.keep k2 fun h => h
 generalize hb2 : w1.heap.size = b2 at *
 generalize w1.alloc (.map #[] 0) = w2 at *
 refine KGO ?_
 refine RunV.makeMap rfl ?_
 have m3 : GMap encS (w2.alloc (.map #[] 0)) w2.heap.size ([] : GM (List UInt8)) := GMap.new w2
 have k3 : Kp w2 (w2.alloc (.map #[] 0)) n_ := (Kp.refl _ _).alloc _
 have m1 := m1.keep k3 fun h => h
 have m2 := m2.keep k3 fun h => h
 generalize hb3 : w2.heap.size = b3 at *
 generalize w2.alloc (.map #[] 0) = w3 at *
 have K3 := (k1.trans0 k2).trans0 k3
 clear k1 k2 k3
 refine KGO ?_
 refine Loop.intro (ι := Nat × Int × GM (List UInt8)) (fun p => [(0, .slice a l.length cap), (3, .map (some b1)), (4, .map (some b2)), (5, .map (some b3)), (6, .int .i64 p.2.1), (19, .slice a l.length cap), (20, .int .i64 (l.length : Nat)), (21, .int .i64 (p.1 : Nat))])
  (fun p wr => Kp w wr n_ ∧ p.1 ≤ l.length ∧ GMap (Value.int .i64) wr b1 (upsM (l.take p.1)) ∧ GMap encLoc wr b2 (locM (l.take p.1)) ∧ GMap encS wr b3 p.2.2 ∧ UsedM (l.take p.1) p.2.2 ∧
   okAll [] l 0 = okAll (l.take p.1) (l.drop p.1) p.2.1 ∧ 0 ≤ p.2.1 ∧ ∀ b ∈ l.take p.1, b.id ≤ p.2.1 ∧ 1 ≤ b.id) (fun p => l.length - p.1) (0, 0, []) ⟨rfl, rfl, rfl, rfl, rfl, rfl, rfl, rfl, trivial⟩
  ⟨K3, Nat.zero_le _, m1, m2, m3, fun r => .inr ⟨rfl, by simp⟩, rfl, Int.le_refl _, by simp⟩ ?_
 rintro ⟨i, last, mu⟩ g wr ⟨hK, hi, h1, h2, h3, hu, hok, hl0, hpre⟩
 dsimp only at hi h1 h2 h3 hu hok hl0 hpre ⊢
 refine GW ?_
 by_cases hlt : i < l.length
 ·have hbs := hs l[i] (List.getElem_mem hlt)
  rw [List.drop_eq_getElem_cons hlt, okAll] at hok
  have htk : l.take (i + 1) = l.take i ++ [l[i]] := List.take_succ_eq_append_getElem hlt
  have hstop : ∀ {q : Bool}, q = false → okStep (l.take i) last l[i] = q → rightL l = false := fun e h => by
   unfold rightL
   rw [hok, h, e]; simp
  have hstep := zfX (l.take i) last l[i]
  obtain ⟨gb, o, rfl, hgb, hat⟩ := hr (by omega)
  refine KGO ?_
  generalize l[i] = b at *
  have l1 := h1.lt
  have l2 := h2.lt
  have l3 := h3.lt
  refine Store.fresh (vs := boxCells b) (by rfl) rfl (zan (by rfl)) ?_
  obtain ⟨a_b8, k_w4, z_w4⟩ := new3 wr 74 (boxCells b)
  generalize wr.alloc (.cells (List.toArray (boxCells b)) 74) = w4 at *
  generalize hs_b8 : wr.heap.size = b8 at *
  have K4 := hK.trans0 k_w4
  have h1 := h1.keep k_w4 fun h => h
  have h2 := h2.keep k_w4 fun h => h
  have h3 := h3.keep k_w4 fun h => h
  refine KGO ?_
  have hfalse : ¬ StepP (l.take i) last b → rightL l = false := fun h => by
   refine hstop rfl ?_
   cases hq : okStep (l.take i) last b with
   | false => rfl
   | true => exact absurd (hstep.1 hq) h
  obtain ⟨rb, ro, rc, hr1, hr2, hr3⟩ := hR
  refine Draw.ways (fun u => Kp w4 u n_) (fun _ => true) [[0, 1, 2, 3, 4, 5, 6, 7], [0, 1, 2, 3, 6, 4, 5, 7]] (by decide +kernel) (Kp.refl _ _).drew ?_
  intro L' hL'
  simp only [List.mem_cons, List.not_mem_nil, or_false] at hL'
  rcases hL' with rfl | rfl
  ·refine KGO ?_
   refine CallS.of (Tryz.call101 _ _) (zdC (w := w4.drew) (str b.name) (hF.keep K4.drew) (by rw [zav]; omega)) ?_
   rintro e w5 ⟨rfl, k5⟩
   rw [L_str]
   have J5 : Kp w4 w5 n_ := (Kp.refl w4 n_).drew.trans0 k5
   refine RT ?_
   refine ⟨J5, ?_⟩
   refine KGO ?_
   refine RunV.of (zhw _ _ _) ?_
   refine KGO ?_
   refine ⟨J5.alloc _, ?_⟩
   refine KGO ?_
   have l9 : b8 < w5.heap.size := by have := J5.size; omega
   refine Store.fresh (vs := locCells (b.up, foldL b.name)) (by rfl) rfl (zan (by rfl)) ?_
   obtain ⟨a_b9, k_w6, z_w6⟩ := new3 w5 131 (locCells (b.up, foldL b.name))
   generalize w5.alloc (.cells (List.toArray (locCells (b.up, foldL b.name))) 131) = w6 at *
   generalize hs_b9 : w5.heap.size = b9 at *
   have J6 := J5.trans0 k_w6
   refine ⟨J6, ?_⟩
   have K6 := K4.trans0 J6
   have h1 := h1.keep J6 fun h => h
   have h2 := h2.keep J6 fun h => h
   have h3 := h3.keep J6 fun h => h
   by_cases q1 : b.id ≤ last
   ·refine KGO ?_
    exact ⟨zad (hfalse fun h => by have := h.asc; omega).symm, K6⟩
   by_cases q2 : 1099511627776 < b.id
   ·refine KGO ?_
    exact ⟨zad (hfalse fun h => by have := h.max; omega).symm, K6⟩
   refine KGO ?_
   refine CallS.of (Tryz.call62 _ _) (zeo (w := w6) (str b.name) (hT.keep K6) (by rw [zav]; omega)) ?_
   rintro e w7 ⟨rfl, k7⟩
   rw [L_str]
   have K7 := K6.trans0 k7
   have J7 := J6.trans0 k7
   have h1 := h1.keep k7 fun h => h
   have h2 := h2.keep k7 fun h => h
   have h3 := h3.keep k7 fun h => h
   refine RT ?_
   by_cases q3 : namedB b.name = true
   rotate_left
   ·rw [show namedB b.name = false by simpa using q3]
    refine KGO ?_
    exact ⟨zad (hfalse fun h => q3 h.named).symm, K7⟩
   rw [q3]
   refine KGO ?_
   refine CallS.of (Tryz.call63 _ _) (zdt (w := w7) rolesL b.role ⟨some ⟨rb, ro, none⟩, rc, rfl, fun _ => ⟨rb, ro, rfl, Nat.lt_of_lt_of_le hr2 K7.size, zac hr3 K7⟩⟩ (by decide)) ?_
   rintro e w8 ⟨rfl, k8⟩
   have K8 := K7.trans0 k8
   have J8 := J7.trans0 k8
   have j68 := k7.trans0 k8
   have h1 := h1.keep k8 fun h => h
   have h2 := h2.keep k8 fun h => h
   have h3 := h3.keep k8 fun h => h
   refine RT ?_
   by_cases q4 : b.role ∈ rolesL
   rotate_left
   ·rw [decide_eq_false q4]
    refine KGO ?_
    exact ⟨zad (hfalse fun h => q4 h.role).symm, K8⟩
   rw [decide_eq_true q4]
   refine KGO ?_
   refine RunV.lookG keyLoc Tryz.underlying127 (Tryz.zeroValue3 _) h2 (b.up, foldL b.name) rfl ?_
   rw [zcm]
   cases hk : kid (l.take i) b.up (foldL b.name) with
   | some j =>
    obtain ⟨c, hc, hc1, hc2, hc3⟩ := zlK hk
    have := (hpre c hc).2
    refine KGO ?_
    exact ⟨zad (hfalse fun h => h.uniq c hc ⟨hc1, hc2⟩).symm, K8⟩
   | none =>
    have hk2 := zji.1 hk
    refine KGO ?_
    by_cases q5 : b.role = []
    ·have hrd : decide (str b.role = (⟨#[]⟩ : ByteArray)) = true := by rw [q5]; rfl
     have hS : StepP (l.take i) last b := ⟨by omega, by omega, q3, q4, hk2, fun c hc h => h.1 q5⟩
     refine KGO ?_
     have c8 := zac a_b8 J8
     have c9 := zac a_b9 j68
     have uH : ∀ {x y : World} {bm : Nat}, bm < b8 → (At x b8 0 (boxCells b) ∧ At x b9 0 (locCells (b.up, foldL b.name)) ∧ Kp w8 x (fun k => k = b1 ∨ k = b2 ∨ k = b3)) → (bm = b1 ∨ bm = b2 ∨ bm = b3) → Kp x y (one_ bm) →
       (At y b8 0 (boxCells b) ∧ At y b9 0 (locCells (b.up, foldL b.name)) ∧ Kp w8 y (fun k => k = b1 ∨ k = b2 ∨ k = b3)) := fun hlt ⟨x1, x2, x3⟩ hb k => by
      refine ⟨zaM x1 k (fun e => ?_), zaM x2 k (fun e => ?_), x3.trans k fun q _ e => ?_⟩
      ·have e : b8 = _ := e
       omega
      ·have e : b9 = _ := e
       omega
      ·have e : q = _ := e
       subst e; exact hb
     refine Draw.held (fun u => At u b8 0 (boxCells b) ∧ At u b9 0 (locCells (b.up, foldL b.name)) ∧ Kp w8 u (fun k => k = b1 ∨ k = b2 ∨ k = b3)) (fun _ => true) (by decide +kernel) ⟨c8, c9, (Kp.refl _ _).drew⟩ ?_
     have s0 : (At w8.drew b8 0 (boxCells b) ∧ At w8.drew b9 0 (locCells (b.up, foldL b.name)) ∧ Kp w8 w8.drew (fun k => k = b1 ∨ k = b2 ∨ k = b3)) := ⟨c8, c9, (Kp.refl _ _).drew⟩
     refine KGO ?_
     refine Held.one (by rfl) (fun u hu => hu.1 0 _ rfl) ?_
     refine KGO ?_
     refine HeldG (locCells (b.up, foldL b.name)) (by rfl) (by rfl) (fun u hu => hu.2.1) (by rfl) ?_
     refine KGO ?_
     refine Held.one (by rfl) (fun u hu => hu.1 3 _ rfl) ?_
     refine KGO ?_
     refine Held.one (by rfl) (fun u hu => hu.1 1 _ rfl) ?_
     refine KGO ?_
     refine Held.one (by rfl) (fun u hu => hu.1 0 _ rfl) ?_
     refine KGO ?_
     refine Held.one (by rfl) (fun u hu => hu.1 0 _ rfl) ?_
     refine KGO ?_
     refine RunU.updG keyInt Tryz.underlying126 (w := w8.drew) h1 b.id rfl _ fun u1 g1 ku1 => ?_
     have s1 := uH l1 s0 (.inl rfl) ku1
     refine ⟨s1, ?_⟩
     refine KGO ?_
     refine RunU.updG keyLoc Tryz.underlying127 (GMap.keep (w := w8.drew) h2 ku1 fun e => by have e : b2 = b1 := e; omega) (b.up, foldL b.name) rfl _ fun u2 g2 ku2 => ?_
     have s2 := uH l2 s1 (.inr (.inl rfl)) ku2
     refine ⟨s2, ?_⟩
     refine KGO ?_
     refine RunU.updG keyStr Tryz.underlying128 ((GMap.keep (w := w8.drew) h3 ku1 fun e => by have e : b3 = b1 := e; omega).keep ku2 fun e => by have e : b3 = b2 := e; omega) b.role rfl _ fun u3 g3 ku3 => ?_
     have s3 := uH l3 s2 (.inr (.inr rfl)) ku3
     refine ⟨s3, ?_⟩
     refine KGO ?_
     have g1 := (g1.keep ku2 fun e => by have e : b1 = b2 := e; omega).keep ku3 fun e => by have e : b1 = b3 := e; omega
     have g2 := g2.keep ku3 fun e => by have e : b2 = b3 := e; omega
     have n1 : (upsM (l.take i)).get b.id = none := by
      rw [zcJ, zcC.2 fun c hc e => by have := (hpre c hc).1; omega]; rfl
     have n2 : (locM (l.take i)).get (b.up, foldL b.name) = none := by rw [zcm, hk]; rfl
     rw [GM.put_new n1] at g1
     rw [GM.put_new n2] at g2
     have e1 : upsM (l.take (i + 1)) = upsM (l.take i) ++ [(b.id, .int .i64 b.up)] := by rw [htk]; unfold upsM; rw [List.map_append]; rfl
     have e2 : locM (l.take (i + 1)) = locM (l.take i) ++ [((b.up, foldL b.name), .int .i64 b.id)] := by rw [htk]; unfold locM; rw [List.map_append]; rfl
     refine ⟨(i + 1, b.id, mu.put b.role (.int .i64 b.id)), ⟨rfl, rfl, rfl, rfl, rfl, rfl, rfl, v_int (by simp), trivial⟩, ⟨K8.trans s3.2.2 fun q hq e => ?_, by dsimp only; omega, ?_, ?_, g3, ?_, ?_, by dsimp only; omega, fun c hc => ?_⟩, by dsimp only; omega⟩
     ·omega
     ·dsimp only; rw [e1]; exact g1
     ·dsimp only; rw [e2]; exact g2
     ·dsimp only; rw [htk]; exact hu.put b (by omega)
     ·dsimp only
      rw [hok, hstep.2 hS, htk]; rfl
     ·dsimp only at hc ⊢
      rw [htk] at hc
      rcases List.mem_append.1 hc with hc | hc
      ·have := hpre c hc; omega
      ·rw [List.mem_singleton.1 hc]; omega
    ·have hrd : decide (str b.role = (⟨#[]⟩ : ByteArray)) = false := decide_eq_false fun h => q5 (by have := congrArg L h; rwa [L_str] at this)
     refine KGO ?_
     refine RunV.lookG keyStr Tryz.underlying128 (Tryz.zeroValue3 _) h3 b.role rfl ?_
     rcases hu b.role with ⟨x, hx0, hget, c, hc, hcr⟩ | ⟨hget, hno⟩
     ·rw [hget]
      refine KGO ?_
      exact ⟨zad (hfalse fun h => h.urole c hc ⟨q5, hcr⟩).symm, K8⟩
     ·rw [hget]
      have hS : StepP (l.take i) last b := ⟨by omega, by omega, q3, q4, hk2, fun c hc h => hno c hc h.2⟩
      refine KGO ?_
      have c8 := zac a_b8 J8
      have c9 := zac a_b9 j68
      have uH : ∀ {x y : World} {bm : Nat}, bm < b8 → (At x b8 0 (boxCells b) ∧ At x b9 0 (locCells (b.up, foldL b.name)) ∧ Kp w8 x (fun k => k = b1 ∨ k = b2 ∨ k = b3)) → (bm = b1 ∨ bm = b2 ∨ bm = b3) → Kp x y (one_ bm) →
        (At y b8 0 (boxCells b) ∧ At y b9 0 (locCells (b.up, foldL b.name)) ∧ Kp w8 y (fun k => k = b1 ∨ k = b2 ∨ k = b3)) := fun hlt ⟨x1, x2, x3⟩ hb k => by
       refine ⟨zaM x1 k (fun e => ?_), zaM x2 k (fun e => ?_), x3.trans k fun q _ e => ?_⟩
       ·have e : b8 = _ := e
        omega
       ·have e : b9 = _ := e
        omega
       ·have e : q = _ := e
        subst e; exact hb
      refine Draw.held (fun u => At u b8 0 (boxCells b) ∧ At u b9 0 (locCells (b.up, foldL b.name)) ∧ Kp w8 u (fun k => k = b1 ∨ k = b2 ∨ k = b3)) (fun _ => true) (by decide +kernel) ⟨c8, c9, (Kp.refl _ _).drew⟩ ?_
      have s0 : (At w8.drew b8 0 (boxCells b) ∧ At w8.drew b9 0 (locCells (b.up, foldL b.name)) ∧ Kp w8 w8.drew (fun k => k = b1 ∨ k = b2 ∨ k = b3)) := ⟨c8, c9, (Kp.refl _ _).drew⟩
      refine KGO ?_
      refine Held.one (by rfl) (fun u hu => hu.1 0 _ rfl) ?_
      refine KGO ?_
      refine HeldG (locCells (b.up, foldL b.name)) (by rfl) (by rfl) (fun u hu => hu.2.1) (by rfl) ?_
      refine KGO ?_
      refine Held.one (by rfl) (fun u hu => hu.1 3 _ rfl) ?_
      refine KGO ?_
      refine Held.one (by rfl) (fun u hu => hu.1 1 _ rfl) ?_
      refine KGO ?_
      refine Held.one (by rfl) (fun u hu => hu.1 0 _ rfl) ?_
      refine KGO ?_
      refine Held.one (by rfl) (fun u hu => hu.1 0 _ rfl) ?_
      refine KGO ?_
      refine RunU.updG keyInt Tryz.underlying126 (w := w8.drew) h1 b.id rfl _ fun u1 g1 ku1 => ?_
      have s1 := uH l1 s0 (.inl rfl) ku1
      refine ⟨s1, ?_⟩
      refine KGO ?_
      refine RunU.updG keyLoc Tryz.underlying127 (GMap.keep (w := w8.drew) h2 ku1 fun e => by have e : b2 = b1 := e; omega) (b.up, foldL b.name) rfl _ fun u2 g2 ku2 => ?_
      have s2 := uH l2 s1 (.inr (.inl rfl)) ku2
      refine ⟨s2, ?_⟩
      refine KGO ?_
      refine RunU.updG keyStr Tryz.underlying128 ((GMap.keep (w := w8.drew) h3 ku1 fun e => by have e : b3 = b1 := e; omega).keep ku2 fun e => by have e : b3 = b2 := e; omega) b.role rfl _ fun u3 g3 ku3 => ?_
      have s3 := uH l3 s2 (.inr (.inr rfl)) ku3
      refine ⟨s3, ?_⟩
      refine KGO ?_
      have g1 := (g1.keep ku2 fun e => by have e : b1 = b2 := e; omega).keep ku3 fun e => by have e : b1 = b3 := e; omega
      have g2 := g2.keep ku3 fun e => by have e : b2 = b3 := e; omega
      have n1 : (upsM (l.take i)).get b.id = none := by
       rw [zcJ, zcC.2 fun c hc e => by have := (hpre c hc).1; omega]; rfl
      have n2 : (locM (l.take i)).get (b.up, foldL b.name) = none := by rw [zcm, hk]; rfl
      rw [GM.put_new n1] at g1
      rw [GM.put_new n2] at g2
      have e1 : upsM (l.take (i + 1)) = upsM (l.take i) ++ [(b.id, .int .i64 b.up)] := by rw [htk]; unfold upsM; rw [List.map_append]; rfl
      have e2 : locM (l.take (i + 1)) = locM (l.take i) ++ [((b.up, foldL b.name), .int .i64 b.id)] := by rw [htk]; unfold locM; rw [List.map_append]; rfl
      refine ⟨(i + 1, b.id, mu.put b.role (.int .i64 b.id)), ⟨rfl, rfl, rfl, rfl, rfl, rfl, rfl, v_int (by simp), trivial⟩, ⟨K8.trans s3.2.2 fun q hq e => ?_, by dsimp only; omega, ?_, ?_, g3, ?_, ?_, by dsimp only; omega, fun c hc => ?_⟩, by dsimp only; omega⟩
      ·omega
      ·dsimp only; rw [e1]; exact g1
      ·dsimp only; rw [e2]; exact g2
      ·dsimp only; rw [htk]; exact hu.put b (by omega)
      ·dsimp only
       rw [hok, hstep.2 hS, htk]; rfl
      ·dsimp only at hc ⊢
       rw [htk] at hc
       rcases List.mem_append.1 hc with hc | hc
       ·have := hpre c hc; omega
       ·rw [List.mem_singleton.1 hc]; omega
  ·refine KGO ?_
   have va : VarK (w4.drew.alloc (.cells [Value.int .i64 0, .string ⟨#[]⟩].toArray 131)) w4.drew.heap.size 131 [.int .i64 0, .string ⟨#[]⟩] := VarK.new _ _ _
   have J5 : Kp w4 (w4.drew.alloc (.cells [Value.int .i64 0, .string ⟨#[]⟩].toArray 131)) n_ := (Kp.refl _ _).drew.alloc _
   have hb9 : w4.heap.size ≤ w4.drew.heap.size := Nat.le_refl _
   have e5 : w4.drew.alloc (.cells #[Value.int .i64 0, .string ⟨#[]⟩] 131) = w4.drew.alloc (.cells [Value.int .i64 0, .string ⟨#[]⟩].toArray 131) := rfl
   rw [e5]
   generalize w4.drew.alloc (.cells [Value.int .i64 0, .string ⟨#[]⟩].toArray 131) = w5 at *
   generalize w4.drew.heap.size = b9 at *
   have l9 : b8 < b9 := by omega
   refine ⟨J5, ?_⟩
   refine KGO ?_
   refine CallS.of (Tryz.call101 _ _) (zdC (w := w5) (str b.name) (hF.keep (K4.trans0 J5)) (by rw [zav]; omega)) ?_
   rintro e w5' ⟨rfl, k5⟩
   rw [L_str]
   have J5' := J5.trans0 k5
   have va := va.keep0 k5
   refine RT ?_
   refine ⟨J5', ?_⟩
   refine KGO ?_
   refine RunV.of (zhw _ _ _) ?_
   refine KGO ?_
   refine SVK (locCells (b.up, foldL b.name)) va fun w6 va6 k6 => ?_
   have a_b9 := va6.at
   have J6 : Kp w4 w6 n_ := J5'.trans k6 fun i hi e => by
    have e : i = b9 := e
    omega
   refine ⟨J6, ?_⟩
   have K6 := K4.trans0 J6
   have h1 := h1.keep J6 fun h => h
   have h2 := h2.keep J6 fun h => h
   have h3 := h3.keep J6 fun h => h
   by_cases q1 : b.id ≤ last
   ·refine KGO ?_
    exact ⟨zad (hfalse fun h => by have := h.asc; omega).symm, K6⟩
   by_cases q2 : 1099511627776 < b.id
   ·refine KGO ?_
    exact ⟨zad (hfalse fun h => by have := h.max; omega).symm, K6⟩
   refine KGO ?_
   refine CallS.of (Tryz.call62 _ _) (zeo (w := w6) (str b.name) (hT.keep K6) (by rw [zav]; omega)) ?_
   rintro e w7 ⟨rfl, k7⟩
   rw [L_str]
   have K7 := K6.trans0 k7
   have J7 := J6.trans0 k7
   have h1 := h1.keep k7 fun h => h
   have h2 := h2.keep k7 fun h => h
   have h3 := h3.keep k7 fun h => h
   refine RT ?_
   by_cases q3 : namedB b.name = true
   rotate_left
   ·rw [show namedB b.name = false by simpa using q3]
    refine KGO ?_
    exact ⟨zad (hfalse fun h => q3 h.named).symm, K7⟩
   rw [q3]
   refine KGO ?_
   refine CallS.of (Tryz.call63 _ _) (zdt (w := w7) rolesL b.role ⟨some ⟨rb, ro, none⟩, rc, rfl, fun _ => ⟨rb, ro, rfl, Nat.lt_of_lt_of_le hr2 K7.size, zac hr3 K7⟩⟩ (by decide)) ?_
   rintro e w8 ⟨rfl, k8⟩
   have K8 := K7.trans0 k8
   have J8 := J7.trans0 k8
   have j68 := k7.trans0 k8
   have h1 := h1.keep k8 fun h => h
   have h2 := h2.keep k8 fun h => h
   have h3 := h3.keep k8 fun h => h
   refine RT ?_
   by_cases q4 : b.role ∈ rolesL
   rotate_left
   ·rw [decide_eq_false q4]
    refine KGO ?_
    exact ⟨zad (hfalse fun h => q4 h.role).symm, K8⟩
   rw [decide_eq_true q4]
   refine KGO ?_
   refine RunV.lookG keyLoc Tryz.underlying127 (Tryz.zeroValue3 _) h2 (b.up, foldL b.name) rfl ?_
   rw [zcm]
   cases hk : kid (l.take i) b.up (foldL b.name) with
   | some j =>
    obtain ⟨c, hc, hc1, hc2, hc3⟩ := zlK hk
    have := (hpre c hc).2
    refine KGO ?_
    exact ⟨zad (hfalse fun h => h.uniq c hc ⟨hc1, hc2⟩).symm, K8⟩
   | none =>
    have hk2 := zji.1 hk
    refine KGO ?_
    by_cases q5 : b.role = []
    ·have hrd : decide (str b.role = (⟨#[]⟩ : ByteArray)) = true := by rw [q5]; rfl
     have hS : StepP (l.take i) last b := ⟨by omega, by omega, q3, q4, hk2, fun c hc h => h.1 q5⟩
     refine KGO ?_
     have c8 := zac a_b8 J8
     have c9 := zac a_b9 j68
     have uH : ∀ {x y : World} {bm : Nat}, bm < b8 → (At x b8 0 (boxCells b) ∧ At x b9 0 (locCells (b.up, foldL b.name)) ∧ Kp w8 x (fun k => k = b1 ∨ k = b2 ∨ k = b3)) → (bm = b1 ∨ bm = b2 ∨ bm = b3) → Kp x y (one_ bm) →
       (At y b8 0 (boxCells b) ∧ At y b9 0 (locCells (b.up, foldL b.name)) ∧ Kp w8 y (fun k => k = b1 ∨ k = b2 ∨ k = b3)) := fun hlt ⟨x1, x2, x3⟩ hb k => by
      refine ⟨zaM x1 k (fun e => ?_), zaM x2 k (fun e => ?_), x3.trans k fun q _ e => ?_⟩
      ·have e : b8 = _ := e
       omega
      ·have e : b9 = _ := e
       omega
      ·have e : q = _ := e
       subst e; exact hb
     refine Draw.held (fun u => At u b8 0 (boxCells b) ∧ At u b9 0 (locCells (b.up, foldL b.name)) ∧ Kp w8 u (fun k => k = b1 ∨ k = b2 ∨ k = b3)) (fun _ => true) (by decide +kernel) ⟨c8, c9, (Kp.refl _ _).drew⟩ ?_
     have s0 : (At w8.drew b8 0 (boxCells b) ∧ At w8.drew b9 0 (locCells (b.up, foldL b.name)) ∧ Kp w8 w8.drew (fun k => k = b1 ∨ k = b2 ∨ k = b3)) := ⟨c8, c9, (Kp.refl _ _).drew⟩
     refine KGO ?_
     refine Held.one (by rfl) (fun u hu => hu.1 0 _ rfl) ?_
     refine KGO ?_
     refine HeldG (locCells (b.up, foldL b.name)) (by rfl) (by rfl) (fun u hu => hu.2.1) (by rfl) ?_
     refine KGO ?_
     refine Held.one (by rfl) (fun u hu => hu.1 3 _ rfl) ?_
     refine KGO ?_
     refine Held.one (by rfl) (fun u hu => hu.1 1 _ rfl) ?_
     refine KGO ?_
     refine Held.one (by rfl) (fun u hu => hu.1 0 _ rfl) ?_
     refine KGO ?_
     refine Held.one (by rfl) (fun u hu => hu.1 0 _ rfl) ?_
     refine KGO ?_
     refine RunU.updG keyInt Tryz.underlying126 (w := w8.drew) h1 b.id rfl _ fun u1 g1 ku1 => ?_
     have s1 := uH l1 s0 (.inl rfl) ku1
     refine ⟨s1, ?_⟩
     refine KGO ?_
     refine RunU.updG keyLoc Tryz.underlying127 (GMap.keep (w := w8.drew) h2 ku1 fun e => by have e : b2 = b1 := e; omega) (b.up, foldL b.name) rfl _ fun u2 g2 ku2 => ?_
     have s2 := uH l2 s1 (.inr (.inl rfl)) ku2
     refine ⟨s2, ?_⟩
     refine KGO ?_
     refine RunU.updG keyStr Tryz.underlying128 ((GMap.keep (w := w8.drew) h3 ku1 fun e => by have e : b3 = b1 := e; omega).keep ku2 fun e => by have e : b3 = b2 := e; omega) b.role rfl _ fun u3 g3 ku3 => ?_
     have s3 := uH l3 s2 (.inr (.inr rfl)) ku3
     refine ⟨s3, ?_⟩
     refine KGO ?_
     have g1 := (g1.keep ku2 fun e => by have e : b1 = b2 := e; omega).keep ku3 fun e => by have e : b1 = b3 := e; omega
     have g2 := g2.keep ku3 fun e => by have e : b2 = b3 := e; omega
     have n1 : (upsM (l.take i)).get b.id = none := by
      rw [zcJ, zcC.2 fun c hc e => by have := (hpre c hc).1; omega]; rfl
     have n2 : (locM (l.take i)).get (b.up, foldL b.name) = none := by rw [zcm, hk]; rfl
     rw [GM.put_new n1] at g1
     rw [GM.put_new n2] at g2
     have e1 : upsM (l.take (i + 1)) = upsM (l.take i) ++ [(b.id, .int .i64 b.up)] := by rw [htk]; unfold upsM; rw [List.map_append]; rfl
     have e2 : locM (l.take (i + 1)) = locM (l.take i) ++ [((b.up, foldL b.name), .int .i64 b.id)] := by rw [htk]; unfold locM; rw [List.map_append]; rfl
     refine ⟨(i + 1, b.id, mu.put b.role (.int .i64 b.id)), ⟨rfl, rfl, rfl, rfl, rfl, rfl, rfl, v_int (by simp), trivial⟩, ⟨K8.trans s3.2.2 fun q hq e => ?_, by dsimp only; omega, ?_, ?_, g3, ?_, ?_, by dsimp only; omega, fun c hc => ?_⟩, by dsimp only; omega⟩
     ·omega
     ·dsimp only; rw [e1]; exact g1
     ·dsimp only; rw [e2]; exact g2
     ·dsimp only; rw [htk]; exact hu.put b (by omega)
     ·dsimp only
      rw [hok, hstep.2 hS, htk]; rfl
     ·dsimp only at hc ⊢
      rw [htk] at hc
      rcases List.mem_append.1 hc with hc | hc
      ·have := hpre c hc; omega
      ·rw [List.mem_singleton.1 hc]; omega
    ·have hrd : decide (str b.role = (⟨#[]⟩ : ByteArray)) = false := decide_eq_false fun h => q5 (by have := congrArg L h; rwa [L_str] at this)
     refine KGO ?_
     refine RunV.lookG keyStr Tryz.underlying128 (Tryz.zeroValue3 _) h3 b.role rfl ?_
     rcases hu b.role with ⟨x, hx0, hget, c, hc, hcr⟩ | ⟨hget, hno⟩
     ·rw [hget]
      refine KGO ?_
      exact ⟨zad (hfalse fun h => h.urole c hc ⟨q5, hcr⟩).symm, K8⟩
     ·rw [hget]
      have hS : StepP (l.take i) last b := ⟨by omega, by omega, q3, q4, hk2, fun c hc h => hno c hc h.2⟩
      refine KGO ?_
      have c8 := zac a_b8 J8
      have c9 := zac a_b9 j68
      have uH : ∀ {x y : World} {bm : Nat}, bm < b8 → (At x b8 0 (boxCells b) ∧ At x b9 0 (locCells (b.up, foldL b.name)) ∧ Kp w8 x (fun k => k = b1 ∨ k = b2 ∨ k = b3)) → (bm = b1 ∨ bm = b2 ∨ bm = b3) → Kp x y (one_ bm) →
        (At y b8 0 (boxCells b) ∧ At y b9 0 (locCells (b.up, foldL b.name)) ∧ Kp w8 y (fun k => k = b1 ∨ k = b2 ∨ k = b3)) := fun hlt ⟨x1, x2, x3⟩ hb k => by
       refine ⟨zaM x1 k (fun e => ?_), zaM x2 k (fun e => ?_), x3.trans k fun q _ e => ?_⟩
       ·have e : b8 = _ := e
        omega
       ·have e : b9 = _ := e
        omega
       ·have e : q = _ := e
        subst e; exact hb
      refine Draw.held (fun u => At u b8 0 (boxCells b) ∧ At u b9 0 (locCells (b.up, foldL b.name)) ∧ Kp w8 u (fun k => k = b1 ∨ k = b2 ∨ k = b3)) (fun _ => true) (by decide +kernel) ⟨c8, c9, (Kp.refl _ _).drew⟩ ?_
      have s0 : (At w8.drew b8 0 (boxCells b) ∧ At w8.drew b9 0 (locCells (b.up, foldL b.name)) ∧ Kp w8 w8.drew (fun k => k = b1 ∨ k = b2 ∨ k = b3)) := ⟨c8, c9, (Kp.refl _ _).drew⟩
      refine KGO ?_
      refine Held.one (by rfl) (fun u hu => hu.1 0 _ rfl) ?_
      refine KGO ?_
      refine HeldG (locCells (b.up, foldL b.name)) (by rfl) (by rfl) (fun u hu => hu.2.1) (by rfl) ?_
      refine KGO ?_
      refine Held.one (by rfl) (fun u hu => hu.1 3 _ rfl) ?_
      refine KGO ?_
      refine Held.one (by rfl) (fun u hu => hu.1 1 _ rfl) ?_
      refine KGO ?_
      refine Held.one (by rfl) (fun u hu => hu.1 0 _ rfl) ?_
      refine KGO ?_
      refine Held.one (by rfl) (fun u hu => hu.1 0 _ rfl) ?_
      refine KGO ?_
      refine RunU.updG keyInt Tryz.underlying126 (w := w8.drew) h1 b.id rfl _ fun u1 g1 ku1 => ?_
      have s1 := uH l1 s0 (.inl rfl) ku1
      refine ⟨s1, ?_⟩
      refine KGO ?_
      refine RunU.updG keyLoc Tryz.underlying127 (GMap.keep (w := w8.drew) h2 ku1 fun e => by have e : b2 = b1 := e; omega) (b.up, foldL b.name) rfl _ fun u2 g2 ku2 => ?_
      have s2 := uH l2 s1 (.inr (.inl rfl)) ku2
      refine ⟨s2, ?_⟩
      refine KGO ?_
      refine RunU.updG keyStr Tryz.underlying128 ((GMap.keep (w := w8.drew) h3 ku1 fun e => by have e : b3 = b1 := e; omega).keep ku2 fun e => by have e : b3 = b2 := e; omega) b.role rfl _ fun u3 g3 ku3 => ?_
      have s3 := uH l3 s2 (.inr (.inr rfl)) ku3
      refine ⟨s3, ?_⟩
      refine KGO ?_
      have g1 := (g1.keep ku2 fun e => by have e : b1 = b2 := e; omega).keep ku3 fun e => by have e : b1 = b3 := e; omega
      have g2 := g2.keep ku3 fun e => by have e : b2 = b3 := e; omega
      have n1 : (upsM (l.take i)).get b.id = none := by
       rw [zcJ, zcC.2 fun c hc e => by have := (hpre c hc).1; omega]; rfl
      have n2 : (locM (l.take i)).get (b.up, foldL b.name) = none := by rw [zcm, hk]; rfl
      rw [GM.put_new n1] at g1
      rw [GM.put_new n2] at g2
      have e1 : upsM (l.take (i + 1)) = upsM (l.take i) ++ [(b.id, .int .i64 b.up)] := by rw [htk]; unfold upsM; rw [List.map_append]; rfl
      have e2 : locM (l.take (i + 1)) = locM (l.take i) ++ [((b.up, foldL b.name), .int .i64 b.id)] := by rw [htk]; unfold locM; rw [List.map_append]; rfl
      refine ⟨(i + 1, b.id, mu.put b.role (.int .i64 b.id)), ⟨rfl, rfl, rfl, rfl, rfl, rfl, rfl, v_int (by simp), trivial⟩, ⟨K8.trans s3.2.2 fun q hq e => ?_, by dsimp only; omega, ?_, ?_, g3, ?_, ?_, by dsimp only; omega, fun c hc => ?_⟩, by dsimp only; omega⟩
      ·omega
      ·dsimp only; rw [e1]; exact g1
      ·dsimp only; rw [e2]; exact g2
      ·dsimp only; rw [htk]; exact hu.put b (by omega)
      ·dsimp only
       rw [hok, hstep.2 hS, htk]; rfl
      ·dsimp only at hc ⊢
       rw [htk] at hc
       rcases List.mem_append.1 hc with hc | hc
       ·have := hpre c hc; omega
       ·rw [List.mem_singleton.1 hc]; omega
 ·refine KGO ?_
  have hin : i = l.length := by omega
  subst hin
  rw [List.take_length] at h1 hok hpre
  rw [List.drop_length] at hok
  have hok : okAll [] l 0 = true := hok
  have hall := (zfj l [] 0).1 hok
  have hrt : rightL l = l.all (deepB l) := by unfold rightL; rw [hok, decide_eq_true (by omega)]; rfl
  refine Loop.intro (ι := Nat) (fun j => [(3, .map (some b1)), (88, .slice a l.length cap), (89, .int .i64 (l.length : Nat)), (90, .int .i64 (j : Nat))])
   (fun j wz => Kp wr wz n_ ∧ j ≤ l.length ∧ ∀ b ∈ l.take j, deepB l b = true) (fun j => l.length - j) 0 ⟨rfl, rfl, rfl, rfl, trivial⟩ ⟨Kp.refl _ _, Nat.zero_le _, by simp⟩ ?_
  rintro j gg wz ⟨hKz, hj, hdj⟩
  have Kz := hK.trans0 hKz
  refine GW ?_
  by_cases hlt2 : j < l.length
  ·obtain ⟨gb, o, rfl, hgb, hat⟩ := hr (by omega)
   have htk : l.take (j + 1) = l.take j ++ [l[j]] := List.take_succ_eq_append_getElem hlt2
   have hm := List.getElem_mem hlt2
   have hpos := hall.lo l[j] hm
   have hdv := znd l l[j] (by omega)
   have hnot : deepB l l[j] = false → rightL l = false := fun h => by
    rw [hrt, List.all_eq_false]
    exact ⟨l[j], hm, by rw [h]; simp⟩
   refine KGO ?_
   generalize l[j] = b at *
   refine Store.fresh (vs := boxCells b) (by rfl) rfl (zan (by rfl)) ?_
   obtain ⟨a_b11, k_w4, z_w4⟩ := new3 wz 74 (boxCells b)
   generalize wz.alloc (.cells (List.toArray (boxCells b)) 74) = w4 at *
   generalize hs_b11 : wz.heap.size = b11 at *
   refine KGO ?_
   refine CallS.of (Tryz.call102 _ _) (zoh (w := w4) l b.id (h1.keep (hKz.trans0 k_w4) fun h => h) (by omega) hl) ?_
   rintro e w5 ⟨rfl, k5⟩
   have K5 := (Kz.trans0 k_w4).trans0 k5
   refine RT ?_
   generalize (dep l l.length b.id).getD 0 = D at *
   by_cases q1 : D < 1
   ·refine KGO ?_
    exact ⟨zad (hnot (by rw [Bool.eq_false_iff]; exact fun h => by have := hdv.1 h; omega)).symm, K5⟩
   by_cases q2 : 8 < D
   ·refine KGO ?_
    exact ⟨zad (hnot (by rw [Bool.eq_false_iff]; exact fun h => by have := hdv.1 h; omega)).symm, K5⟩
   refine KGO ?_
   refine ⟨j + 1, ⟨rfl, rfl, rfl, v_int (by simp), trivial⟩, ⟨(hKz.trans0 k_w4).trans0 k5, by omega, fun c hc => ?_⟩, by dsimp only; omega⟩
   rw [htk] at hc
   rcases List.mem_append.1 hc with hc | hc
   ·exact hdj c hc
   ·rw [List.mem_singleton.1 hc]; exact hdv.2 (by omega)
  ·refine KGO ?_
   refine ⟨zad ?_, Kz⟩
   rw [hrt]
   symm
   rw [List.all_eq_true]
   intro b hb
   exact hdj b (by rw [show j = l.length by omega, List.take_length]; exact hb)
end
end Go.Proofs.YtohhkegmbgancaaGreatDoor
