/- Helper text of this claim: Bw2, Bw3: lemmas and contracts that the proved statement rests on; no conditions of its own. -/
import Derived.Test.YtohhkegmbgancaaGreatDoorGMapG
import Derived.Laws.StructEq
-- alias Tryz
namespace Go.Proofs.YtohhkegmbgancaaGreatDoor
open Go.RowKit Go.Pw Go.Vc Go.Cs Go.Lib
set_option linter.unusedVariables false
set_option maxRecDepth 100000
section
variable {w : World}
/-! ### Names -/
theorem nm_bad (r : Nat) (hr : r ≤ 1114111) : Calls Tryz.prog 125 #[.int .i32 (r : Nat)] w fun e w' => e = .returned (.bool (decide (badR r))) ∧ w = w' := by
  refine calls_of_vc (args := [.int .i32 (r : Nat)]) Tryz.func125 rfl (Nat.le_of_ble_eq_true rfl) ?_; refine Sat.go hmix ?_; conv => whnf
  by_cases h1 : r < 32
  · refine KGO ?_
    exact ⟨ret_bool (decide_eq_true (show badR r from .inl h1)).symm, rfl⟩
  by_cases h2 : r = 127
  · refine KGO ?_
    exact ⟨ret_bool (decide_eq_true (show badR r from .inr (.inl h2))).symm, rfl⟩
  refine KGO ?_
  refine ⟨ret_bool ?_, rfl⟩
  have hb : badR r ↔ r = 47 := by unfold badR; omega
  rw [Bool.eq_iff_iff, beq_iff_eq, decide_eq_true_eq, hb]
  omega
set_option maxHeartbeats 1000000 in
theorem nm_index (s : ByteArray) (hs : s.size ≤ 100000000) : Calls Tryz.prog 191 #[.string s, .func (.func 125) #[] #[], .bool true] w fun e w' => ∃ z : Int, e = .returned (.int .i64 z) ∧ (0 ≤ z ↔ ∃ r ∈ runes (L s), badR r) ∧ Keeps w w' none_ := by
  have hl := L_len s
  refine calls_of_vc (args := [.string s, .func (.func 125) #[] #[], .bool true]) Tryz.func191 rfl (Nat.le_of_ble_eq_true rfl) ?_; refine Sat.go hmix ?_; conv => whnf
  refine RunV.rangeS Tryz.underlying9 ?_
  (first | refine Then.go hmix ?_ | refine Sat.go hmix ?_ | refine ResK.go ?_ | skip); conv => whnf
  have hi0 : (w.alloc (.stringIter s 0)).heap[w.heap.size]? = some (.stringIter s 0) := heap_alloc_new _ _
  have K1 : Keeps w (w.alloc (.stringIter s 0)) none_ := (Keeps.refl _ _).alloc _
  generalize w.alloc (.stringIter s 0) = w1 at *
  refine Loop.intro (ι := Nat) (fun i => [(0, .string s), (1, .func (.func 125) #[] #[]), (2, .bool true), (10, .pointer (some ⟨w.heap.size, 0, none⟩))])
    (fun n wr => Keeps w wr none_ ∧ n ≤ s.size ∧ wr.heap[w.heap.size]? = some (.stringIter s n) ∧ ((∃ r ∈ runes (L s), badR r) ↔ ∃ r ∈ runes ((L s).drop n), badR r)) (fun n => s.size - n) 0 ⟨rfl, rfl, rfl, rfl, trivial⟩
    ⟨K1, Nat.zero_le _, hi0, Iff.rfl⟩ ?_
  rintro n g wr ⟨hK, hn, hi, he⟩
  (first | refine Then.go hmix ?_ | refine Sat.go hmix ?_ | refine ResK.go ?_ | skip); conv => whnf
  by_cases hlt : n < s.size
  · refine RunV.nextS hi hlt ?_
    have hne : (L s).drop n ≠ [] := by rw [← L_from]; exact L_ne (by simp; omega)
    have hw := decodeL_width ((L s).drop n)
    have hle := decodeL_le _ hne
    have hru := decodeL_rune ((L s).drop n)
    rw [List.length_drop] at hle
    rw [runes_step _ hne, List.drop_drop] at he
    have hi2 : (setO wr w.heap.size (.stringIter s (n + (decodeL ((L s).drop n)).2))).heap[w.heap.size]? = some (.stringIter s (n + (decodeL ((L s).drop n)).2)) := setO_get _ (lt_of_obj hi)
    have K2 : Keeps w (setO wr w.heap.size (.stringIter s (n + (decodeL ((L s).drop n)).2))) none_ := hK.trans (setO_keeps _) fun i hi h => by have h : i = w.heap.size := h; omega
    generalize setO wr w.heap.size (.stringIter s (n + (decodeL ((L s).drop n)).2)) = w2 at *
    generalize (decodeL ((L s).drop n)).2 = k at *
    generalize (decodeL ((L s).drop n)).1 = r at *
    refine KGO ?_
    refine CallS.of (Tryz.call125 _ _) (nm_bad (w := w2) r (by omega)) ?_
    rintro e w3 ⟨rfl, rfl⟩
    refine ⟨_, rfl, ?_⟩; (first | refine Then.go hmix ?_ | refine Sat.go hmix ?_ | refine ResK.go ?_ | skip); conv => whnf
    by_cases hb : badR r
    · rw [decide_eq_true hb]
      refine KGO ?_
      exact ⟨_, rfl, ⟨fun _ => he.2 ⟨r, by simp, hb⟩, fun _ => by omega⟩, K2⟩
    · rw [decide_eq_false hb]
      refine KGO ?_
      refine ⟨n + k, ⟨rfl, rfl, rfl, rfl, trivial⟩, ⟨K2, by omega, hi2, he.trans ⟨?_, ?_⟩⟩, by dsimp only; omega⟩
      · rintro ⟨x, hx, hxb⟩
        rcases List.mem_cons.1 hx with rfl | hx
        · exact absurd hxb hb
        · exact ⟨x, hx, hxb⟩
      · rintro ⟨x, hx, hxb⟩
        exact ⟨x, List.mem_cons_of_mem _ hx, hxb⟩
  · refine RunV.nextE hi hlt ?_
    refine KGO ?_
    refine ⟨_, rfl, ⟨fun h => by omega, fun h => ?_⟩, hK⟩
    rw [List.drop_eq_nil_of_le (by omega)] at he
    obtain ⟨r, hr, _⟩ := he.1 h
    cases hr
theorem nm_contains (s : ByteArray) (hs : s.size ≤ 100000000) : Calls Tryz.prog 124 #[.string s, .func (.func 125) #[] #[]] w fun e w' => e = .returned (.bool (decide (∃ r ∈ runes (L s), badR r))) ∧ Keeps w w' none_ := by
  have hi : ∀ w : World, Calls Tryz.prog 173 #[.string s, .func (.func 125) #[] #[]] w fun e w' => ∃ z : Int, e = .returned (.int .i64 z) ∧ (0 ≤ z ↔ ∃ r ∈ runes (L s), badR r) ∧ Keeps w w' none_ := fun w => by
    refine calls_of_vc (args := [.string s, .func (.func 125) #[] #[]]) Tryz.func173 rfl (Nat.le_of_ble_eq_true rfl) ?_; refine Sat.go hmix ?_; conv => whnf
    refine CallS.of (Tryz.call191 _ _) (nm_index s hs) ?_
    rintro e w1 ⟨z, rfl, hz, k1⟩
    refine ⟨_, rfl, ?_⟩; (first | refine Then.go hmix ?_ | refine Sat.go hmix ?_ | refine ResK.go ?_ | skip); conv => whnf
    exact ⟨z, rfl, hz, k1⟩
  refine calls_of_vc (args := [.string s, .func (.func 125) #[] #[]]) Tryz.func124 rfl (Nat.le_of_ble_eq_true rfl) ?_; refine Sat.go hmix ?_; conv => whnf
  refine CallS.of (Tryz.call173 _ _) (hi w) ?_
  rintro e w1 ⟨z, rfl, hz, k1⟩
  refine ⟨_, rfl, ?_⟩; (first | refine Then.go hmix ?_ | refine Sat.go hmix ?_ | refine ResK.go ?_ | skip); conv => whnf
  refine ⟨ret_bool ?_, k1⟩
  rw [Bool.eq_iff_iff, decide_eq_true_eq, decide_eq_true_eq]
  exact hz
theorem bx_Named (s : ByteArray) (hT : Tabs w) (hs : s.size ≤ 140737488355328) : Calls Tryz.prog 62 #[.string s] w fun e w' => e = .returned (.bool (namedB (L s))) ∧ Keeps w w' none_ := by
  have hl := L_len s
  have hno : ∀ (h : ¬ (1 ≤ (L s).length ∧ (L s).length ≤ 100 ∧ validD (L s) = true)), namedB (L s) = false := fun h => by
    cases hn : namedB (L s) with
    | false => rfl
    | true =>
      have := (named_iff (L s)).1 hn
      exact absurd ⟨this.1, this.2.1, this.2.2.1⟩ h
  refine calls_of_vc (args := [.string s]) Tryz.func62 rfl (Nat.le_of_ble_eq_true rfl) ?_; refine Sat.go hmix ?_; conv => whnf
  by_cases h1 : s.size < 1
  · refine KGO ?_
    exact ⟨ret_bool (hno (by omega)).symm, Keeps.refl _ _⟩
  by_cases h2 : 100 < s.size
  · refine KGO ?_
    exact ⟨ret_bool (hno (by omega)).symm, Keeps.refl _ _⟩
  refine KGO ?_
  refine CallS.of (Tryz.call123 _ _) (cs_Valid s hT (by omega)) ?_
  rintro e w1 ⟨rfl, k1⟩
  refine ⟨_, rfl, ?_⟩; (first | refine Then.go hmix ?_ | refine Sat.go hmix ?_ | refine ResK.go ?_ | skip); conv => whnf
  by_cases h3 : validD (L s) = true
  · rw [h3]
    refine KGO ?_
    refine CallS.of (Tryz.call124 _ _) (nm_contains (w := w1) s (by omega)) ?_
    rintro e w2 ⟨rfl, k2⟩
    refine ⟨_, rfl, ?_⟩; (first | refine Then.go hmix ?_ | refine Sat.go hmix ?_ | refine ResK.go ?_ | skip); conv => whnf
    exact ⟨ret_bool (named_runes (L s) (by omega) (by omega) h3).symm, k1.trans0 k2⟩
  · rw [show validD (L s) = false by simpa using h3]
    refine KGO ?_
    exact ⟨ret_bool (hno fun h => h3 h.2.2).symm, k1⟩
/-! ### Roles -/
def RolesTab (w : World) : Prop := ∃ b o c, w.cell? ⟨0, 0, none⟩ = some (.slice (some ⟨b, o, none⟩) 7 c) ∧ b < w.heap.size ∧ At w b o (rolesL.map sv)
theorem RolesTab.keep {w' : World} (h : RolesTab w) (k : Keeps w w' none_) : RolesTab w' := by
  obtain ⟨b, o, c, h1, h2, h3⟩ := h
  exact ⟨b, o, c, cell_mono h1 k, Nat.lt_of_lt_of_le h2 k.size, at_mono h3 k⟩
set_option maxHeartbeats 1000000 in
theorem idx_texts {v : Value} (l : List (List UInt8)) (s : List UInt8) (hv : RowO w v (fun x => [sv x]) l) (hl : l.length ≤ 8796093022208) : Calls Tryz.prog 126 #[v, .string (str s)] w fun e w' => ∃ z : Int, e = .returned (.int .i64 z) ∧ (0 ≤ z ↔ s ∈ l) ∧ Keeps w w' none_ := by
  obtain ⟨a, cap, rfl, hr⟩ := hv
  refine calls_of_vc (args := [.slice a l.length cap, .string (str s)]) Tryz.func126 rfl (Nat.le_of_ble_eq_true rfl) ?_; refine Sat.go hmix ?_; conv => whnf
  refine Loop.intro (ι := Nat) (fun i => [(0, .slice a l.length cap), (1, .string (str s)), (7, .int .i64 (l.length : Nat)), (8, .int .i64 (i : Nat))])
    (fun i wr => Keeps w wr none_ ∧ i ≤ l.length ∧ (s ∈ l ↔ s ∈ l.drop i)) (fun i => l.length - i) 0 ⟨rfl, rfl, rfl, rfl, trivial⟩ ⟨Keeps.refl _ _, Nat.zero_le _, Iff.rfl⟩ ?_
  rintro i g wr ⟨hK, hi, he⟩
  (first | refine Then.go hmix ?_ | refine Sat.go hmix ?_ | refine ResK.go ?_ | skip); conv => whnf
  by_cases hlt : i < l.length
  · obtain ⟨gb, o, rfl, hgb, hat⟩ := hr (by omega)
    have hd := List.drop_eq_getElem_cons hlt
    have c0 : w.cell? ⟨gb, o + i, none⟩ = some (.string (str l[i])) := at_row hat (fun _ => rfl) hlt 0 _ rfl |> fun h => by simpa [sv] using h
    generalize l[i] = x at *
    refine KGO ?_
    by_cases hx : s = x
    · have hxx : decide (str s = str x) = true := by simp [hx]
      refine KGO ?_
      exact ⟨_, rfl, ⟨fun _ => he.2 (by rw [hd, hx]; simp), fun _ => by omega⟩, hK⟩
    · have hxx : decide (str s = str x) = false := by simp [str_eq, hx]
      refine KGO ?_
      refine ⟨i + 1, ⟨rfl, rfl, rfl, v_int (by simp), trivial⟩, ⟨hK, by omega, ?_⟩, by dsimp only; omega⟩
      rw [he, hd]
      simp [hx]
  · refine KGO ?_
    refine ⟨_, rfl, ⟨fun h => by omega, fun h => ?_⟩, hK⟩
    rw [he, List.drop_eq_nil_of_le (by omega)] at h
    cases h
theorem con_texts {v : Value} (l : List (List UInt8)) (s : List UInt8) (hv : RowO w v (fun x => [sv x]) l) (hl : l.length ≤ 8796093022208) : Calls Tryz.prog 63 #[v, .string (str s)] w fun e w' => e = .returned (.bool (decide (s ∈ l))) ∧ Keeps w w' none_ := by
  have hv0 := hv
  obtain ⟨a, cap, rfl, hr⟩ := hv
  refine calls_of_vc (args := [.slice a l.length cap, .string (str s)]) Tryz.func63 rfl (Nat.le_of_ble_eq_true rfl) ?_; refine Sat.go hmix ?_; conv => whnf
  refine CallS.of (Tryz.call126 _ _) (idx_texts l s hv0 hl) ?_
  rintro e w1 ⟨z, rfl, hz, k1⟩
  refine ⟨_, rfl, ?_⟩; (first | refine Then.go hmix ?_ | refine Sat.go hmix ?_ | refine ResK.go ?_ | skip); conv => whnf
  refine ⟨ret_bool ?_, k1⟩
  rw [Bool.eq_iff_iff, decide_eq_true_eq, decide_eq_true_eq]
  exact hz
end
end Go.Proofs.YtohhkegmbgancaaGreatDoor

-- alias Tryz
namespace Go.Proofs.YtohhkegmbgancaaGreatDoor
open Go.RowKit Go.Pw Go.Vc Go.Cs Go.Lib
set_option linter.unusedVariables false
set_option maxRecDepth 100000
/-! ### Keys: a parent and a name -/
def locCells (p : Int × List UInt8) : List Value := [.int .i64 p.1, .string (str p.2)]
def encLoc (p : Int × List UInt8) : Value := .agg (locCells p).toArray
theorem locFields : ∃ a b, (Tryz.prog.fieldsOf 131).toList = [a, b] ∧ a.name ≠ "_" ∧ b.name ≠ "_" ∧ a.type = 3 ∧ b.type = 9 ∧ a.offset = 0 ∧ b.offset = 1 :=
  ⟨_, _, rfl, by decide, by decide, rfl, rfl, rfl, rfl⟩
theorem str_beq (x y : List UInt8) : ((str x).toList == (str y).toList) = decide (x = y) := by
  rw [toList_beq]
  by_cases h : x = y
  · simp [h]
  · have : str x ≠ str y := fun e => h (by have := congrArg L e; rwa [L_str, L_str] at this)
    simp [h, this]
theorem eq_loc (x y : Int × List UInt8) (w : World) : (Op.equalIn (9999 + 1) 131 (encLoc x) (encLoc y)).run Tryz.prog w = .ok (decide (x = y)) w := by
  unfold encLoc
  rw [run_equalIn_agg w 9999 131 _ _ (by rfl) (by kernel_rfl)]
  obtain ⟨a, b, hf, na, nb, ta, tb, oa, ob⟩ := locFields
  rw [hf]
  simp only [Op.eqFields, na, nb, ne_eq, not_false_eq_true, if_true, ta, tb, oa, ob]
  have p0 : (part 3 (locCells x).toArray 0).run Tryz.prog w = .ok (.int .i64 x.1) w := by rfl
  have p1 : (part 9 (locCells x).toArray 1).run Tryz.prog w = .ok (.string (str x.2)) w := by rfl
  have q0 : (part 3 (locCells y).toArray 0).run Tryz.prog w = .ok (.int .i64 y.1) w := by rfl
  have q1 : (part 9 (locCells y).toArray 1).run Tryz.prog w = .ok (.string (str y.2)) w := by rfl
  have i1 (a b : Int) : (Op.equalIn (9998 + 1) 3 (.int .i64 a) (.int .i64 b)).run Tryz.prog w = .ok (a == b) w := run_equalIn_int w 9998 3 .i64 .i64 a b (by rfl)
  have i2 (a b : ByteArray) : (Op.equalIn (9998 + 1) 9 (.string a) (.string b)).run Tryz.prog w = .ok (a.toList == b.toList) w := run_equalIn_string w 9998 9 a b (by rfl)
  simp only [Sem.run_bind, Sem.run_ite, p0, p1, q0, q1, i1, i2, Result.andThen_ok]
  obtain ⟨x1, x2⟩ := x
  obtain ⟨y1, y2⟩ := y
  dsimp only
  rw [str_beq]
  by_cases h1 : x1 = y1 <;> by_cases h2 : x2 = y2 <;> simp [h1, h2]
theorem keyLoc : KeyOk Tryz.prog 131 encLoc := keyOk_ask Tryz.underlying131 (fun _ _ => rfl) (fun w a b => eq_loc a b w) (fun e k w => by
    show (Instr.checkKey e (9999 + 1) 131 (.agg (locCells k).toArray)).run Tryz.prog w = _
    have p0 : (part 3 (locCells k).toArray 0).run Tryz.prog w = .ok (.int .i64 k.1) w := by rfl
    have p1 : (part 9 (locCells k).toArray 1).run Tryz.prog w = .ok (.string (str k.2)) w := by rfl
    have c0 : ∀ z, (Instr.checkKey e 9999 3 (.int .i64 z)).run Tryz.prog w = .ok () w := fun z => by
      show (Instr.checkKey e (9998 + 1) 3 _).run Tryz.prog w = _
      unfold Instr.checkKey
      simp [und_ok Tryz.underlying3]
    have c1 : ∀ s, (Instr.checkKey e 9999 9 (.string s)).run Tryz.prog w = .ok () w := fun s => by
      show (Instr.checkKey e (9998 + 1) 9 _).run Tryz.prog w = _
      unfold Instr.checkKey
      simp [und_ok Tryz.underlying9]
    unfold Instr.checkKey
    simp [und_ok Tryz.underlying131, p0, p1, c0, c1]) (fun k => by simp [encLoc, locCells, Instr.sameBits, ba_beqG])
theorem keyInt : KeyOk Tryz.prog 3 (Value.int .i64) := keyOk_int Tryz.underlying3
def encS (s : List UInt8) : Value := .string (str s)
theorem keyStr : KeyOk Tryz.prog 9 encS where
  check e k w := (keyOk_str Tryz.underlying9).check e (str k) w
  find := find_now Tryz.underlying9 fun a b => by
    show some (str a == str b) = _
    rw [ba_beqG]
    congr 1
    rw [Bool.eq_iff_iff, decide_eq_true_eq, decide_eq_true_eq, str_eq]
  bits k := (keyOk_str Tryz.underlying9).bits (str k)
/-! ### The maps of Right -/
def upsM (l : List Bx) : GM Int := l.map fun b => (b.id, .int .i64 b.up)
def locM (l : List Bx) : GM (Int × List UInt8) := l.map fun b => ((b.up, foldL b.name), .int .i64 b.id)
theorem upsM_get (id : Int) : ∀ l, (upsM l).get id = (upOf l id).map (Value.int .i64)
  | [] => rfl
  | b :: l => by
    show GM.get ((b.id, .int .i64 b.up) :: upsM l) id = _
    unfold GM.get upOf
    by_cases h : id = b.id
    · rw [if_pos h, List.find?_cons_of_pos (by simp [h])]; rfl
    · rw [if_neg h, List.find?_cons_of_neg (by simp; exact fun e => h e.symm), upsM_get id l]; rfl
theorem locM_get (u : Int) (nm : List UInt8) : ∀ l, (locM l).get (u, nm) = (kid l u nm).map (Value.int .i64)
  | [] => rfl
  | b :: l => by
    show GM.get (((b.up, foldL b.name), .int .i64 b.id) :: locM l) (u, nm) = _
    unfold GM.get kid
    by_cases h : (u, nm) = (b.up, foldL b.name)
    · rw [if_pos h, List.find?_cons_of_pos (by simp at h; simp [h])]; rfl
    · rw [if_neg h, List.find?_cons_of_neg (by simp at h; simp; exact fun e1 e2 => h e1.symm e2.symm), locM_get u nm l]; rfl
theorem _root_.Go.Vc.GM.put_new {κ : Type} [DecidableEq κ] {m : GM κ} {k : κ} (h : m.get k = none) (x : Value) : m.put k x = m ++ [(k, x)] := by
  have h1 := GM.idx_get k m 0
  rw [h] at h1
  exact (GM.idx_none k m 0 (Option.map_eq_none_iff.1 h1)).2.1 x
theorem kid_none {l : List Bx} {u : Int} {nm : List UInt8} : kid l u nm = none ↔ ∀ b ∈ l, ¬ (b.up = u ∧ foldL b.name = nm) := by
  unfold kid
  rw [Option.map_eq_none_iff, List.find?_eq_none]
  simp
/-- The set of the roles in use. -/
def UsedM (l : List Bx) (m : GM (List UInt8)) : Prop := ∀ r, (∃ x : Int, x ≠ 0 ∧ m.get r = some (.int .i64 x) ∧ ∃ b ∈ l, b.role = r) ∨ (m.get r = none ∧ ∀ b ∈ l, b.role ≠ r)
theorem UsedM.put {l : List Bx} {m : GM (List UInt8)} (h : UsedM l m) (b : Bx) (hb : b.id ≠ 0) : UsedM (l ++ [b]) (m.put b.role (.int .i64 b.id)) := fun r => by
  rw [GM.get_put]
  by_cases e : r = b.role
  · left
    rw [if_pos e]
    exact ⟨b.id, hb, rfl, b, by simp, e.symm⟩
  · rw [if_neg e]
    rcases h r with ⟨x, h1, h2, c, hc, h3⟩ | ⟨h1, h2⟩
    · exact .inl ⟨x, h1, h2, c, by simp [hc], h3⟩
    · refine .inr ⟨h1, fun c hc => ?_⟩
      rcases List.mem_append.1 hc with hc | hc
      · exact h2 c hc
      · rw [List.mem_singleton.1 hc]; exact fun q => e q.symm
section
variable {w : World}
set_option maxHeartbeats 1000000 in
theorem bx_tree {bm : Nat} (l : List Bx) (id : Int) (hm : GMap (Value.int .i64) w bm (upsM l)) (h0 : id ≠ 0) (hl : l.length ≤ 1000) : Calls Tryz.prog 102 #[.map (some bm), .int .i64 id] w fun e w' => e = .returned (.int .i64 ((dep l l.length id).getD 0 : Nat)) ∧ Keeps w w' none_ := by
  have hlen : (upsM l).length = l.length := by unfold upsM; rw [List.length_map]
  have zi : (zeroValue 3).run Tryz.prog w = .ok (.int .i64 0) w := Tryz.zeroValue3 w
  refine calls_of_vc (args := [.map (some bm), .int .i64 id]) Tryz.func102 rfl (Nat.le_of_ble_eq_true rfl) ?_; refine Sat.go hmix ?_; conv => whnf
  refine Loop.intro (ι := Nat × Int) (fun p => [(0, .map (some bm)), (1, .int .i64 p.2), (5, .int .i64 ((p.1 : Nat) + 1 : Int))])
    (fun p wr => Keeps w wr none_ ∧ p.1 ≤ l.length ∧ p.2 ≠ 0 ∧ (dep l l.length id).getD 0 = ((dep l (l.length - p.1) p.2).map (· + p.1)).getD 0) (fun p => l.length - p.1) (0, id) ⟨rfl, rfl, rfl, trivial⟩
    ⟨Keeps.refl _ _, Nat.zero_le _, h0, by dsimp only; rw [Nat.sub_zero]; cases dep l l.length id <;> rfl⟩ ?_
  rintro ⟨n, x⟩ g wr ⟨hK, hn, hx, he⟩
  dsimp only at hn hx he ⊢
  have zi : (zeroValue 3).run Tryz.prog wr = .ok (.int .i64 0) wr := Tryz.zeroValue3 wr
  (first | refine Then.go hmix ?_ | refine Sat.go hmix ?_ | refine ResK.go ?_ | skip); conv => whnf
  refine RunN.lenG Tryz.underlying126 (hm.keep hK fun h => h) ?_
  (first | refine Then.go hmix ?_ | refine Sat.go hmix ?_ | refine ResK.go ?_ | skip); conv => whnf
  by_cases hlt : n < l.length
  · obtain ⟨f, hf⟩ : ∃ f, l.length - n = f + 1 := ⟨l.length - n - 1, by omega⟩
    rw [hf, dep, if_neg hx] at he
    refine KGO ?_
    refine RunV.lookG2 keyInt Tryz.underlying126 zi (hm.keep hK fun h => h) x rfl ?_
    rw [upsM_get]
    cases hu : upOf l x with
    | none =>
      rw [hu] at he
      dsimp only at he
      refine KGO ?_
      exact ⟨by rw [he]; rfl, hK⟩
    | some u =>
      rw [hu] at he
      dsimp only at he
      by_cases hu0 : u = 0
      · subst hu0
        refine KGO ?_
        refine ⟨ret_int ?_, hK⟩
        rw [he]
        have : dep l f 0 = some 0 := by cases f <;> rfl
        rw [this]
        show ((n : Nat) : Int) + 1 = ((0 + 1 + n : Nat) : Int)
        omega
      · refine KGO ?_
        refine ⟨(n + 1, u), ⟨rfl, rfl, v_int (by dsimp only; omega), trivial⟩, ⟨hK, by dsimp only; omega, hu0, ?_⟩, by dsimp only; omega⟩
        dsimp only
        rw [he, show l.length - (n + 1) = f by omega]
        cases dep l f u with
        | none => rfl
        | some d => show d + 1 + n = d + (n + 1); omega
  · refine KGO ?_
    refine ⟨ret_int ?_, hK⟩
    rw [he, show l.length - n = 0 by omega, dep, if_neg hx]; rfl
end
end Go.Proofs.YtohhkegmbgancaaGreatDoor
