/- Helper text of this claim: Af0, Af2, Af3: lemmas and contracts that the proved statement rests on; no conditions of its own. -/
import Derived.Test.YtohhkegmbgancaaGreatDoorGAx4
import Derived.Test.YtohhkegmbgancaaGreatDoorGBx5
import Derived.Test.YtohhkegmbgancaaGreatDoorGAg3
import Derived.Test.YtohhkegmbgancaaGreatDoorGAe4
namespace Go.Cs
open Go.Lib
set_option linter.unusedVariables false
/-! ### What the laws of chapter 42 say of applyA, plain -/
section
variable {A : Acc} {o : Opr} {r : Acc × Int}
theorem mail_ok (h : mailA A o = .ok r) : r = ({ A with mails := A.mails ++ [⟨A.nm, o.blob, sortI o.boxes, sortT o.add, o.at_, o.size, A.st⟩], nm := A.nm + 1 }, A.nm) := by
  unfold mailA at h
  split at h
  · cases h
  split at h
  · cases h
  split at h
  · cases h
  · injection h with h; exact h.symm
theorem add_ok (h : addA A o = .ok r) : (addL A.boxes o.up o.name o.role A.nb).2 = 0 ∧ r = ({ A with boxes := (addL A.boxes o.up o.name o.role A.nb).1, nb := A.nb + 1 }, A.nb) := by
  unfold addA at h
  split at h
  · cases h
  split at h
  · cases h
  · rename_i h0 h1
    injection h with h
    exact ⟨Classical.not_not.1 h1, h.symm⟩
theorem flag_ok (h : flagA A o = .ok r) : ∃ m, ofA A o = .ok m ∧ r = ({ A with mails := updA A.mails o.id fun m => { m with flags := newFlags m o, mod := A.st } }, 0) := by
  unfold flagA at h
  split at h
  · cases h
  · rename_i m hm
    split at h
    · cases h
    split at h
    · cases h
    · injection h with h
      exact ⟨m, hm, h.symm⟩
theorem move_ok (h : moveA A o = .ok r) : ∃ m, ofA A o = .ok m ∧ r = ({ A with mails := updA A.mails o.id fun m' => { m' with boxes := sortI o.boxes, mod := A.st } }, 0) := by
  unfold moveA at h
  split at h
  · cases h
  · rename_i m hm
    split at h
    · cases h
    split at h
    · cases h
    · injection h with h
      exact ⟨m, hm, h.symm⟩
theorem destroy_ok (h : destroyA A o = .ok r) : r = ({ A with mails := delA A.mails o.id }, 0) := by
  unfold destroyA at h
  split at h
  · cases h
  · injection h with h
    exact h.symm
theorem drop_ok (h : dropA A o = .ok r) : (dropL A.boxes o.box).2 = 0 ∧ (∀ m ∈ A.mails, m.boxes ≠ [o.box]) ∧ r = ({ A with boxes := (dropL A.boxes o.box).1, mails := A.mails.map (outOf A.st o.box) }, 0) := by
  unfold dropA at h
  split at h
  · cases h
  split at h
  · cases h
  split at h
  · cases h
  · rename_i h0 h1 h2
    injection h with h
    refine ⟨Classical.not_not.1 h0, fun m hm e => h2 ?_, h.symm⟩
    rw [List.any_eq_true]
    exact ⟨m, hm, decide_eq_true e⟩
theorem set_ok (h : setA A o = .ok r) : r.1.nm = A.nm ∧ r.1.nb = A.nb := by
  unfold setA at h
  split at h
  · cases h
  split at h
  · cases h
  split at h
  · injection h with h; rw [← h]; exact ⟨rfl, rfl⟩
  split at h
  · cases h
  · injection h with h; rw [← h]; exact ⟨rfl, rfl⟩
theorem unset_ok (h : unsetA A o = .ok r) : r.1.nm = A.nm ∧ r.1.nb = A.nb := by
  unfold unsetA at h
  split at h
  · cases h
  split at h
  · cases h
  · injection h with h; rw [← h]; exact ⟨rfl, rfl⟩
theorem choose_ok (h : chooseA A o = .ok r) : r.1.nm = A.nm ∧ r.1.nb = A.nb := by
  unfold chooseA at h
  split at h
  · cases h
  · injection h with h; rw [← h]; exact ⟨rfl, rfl⟩
theorem answer_ok (h : answerA A o = .ok r) : r.1.nm = A.nm ∧ r.1.nb = A.nb := by
  unfold answerA at h
  split at h
  · cases h
  · injection h with h; rw [← h]; exact ⟨rfl, rfl⟩
/-- The next numbers never fall. -/
theorem one_nums (h : oneA A o = .ok r) : A.nm ≤ r.1.nm ∧ A.nb ≤ r.1.nb := by
  unfold oneA at h
  by_cases k1 : o.kind = 1
  · rw [if_pos k1] at h; rw [mail_ok h]; exact ⟨by show A.nm ≤ A.nm + 1; omega, Int.le_refl _⟩
  rw [if_neg k1] at h
  by_cases k2 : o.kind = 2
  · rw [if_pos k2] at h; obtain ⟨m, _, rfl⟩ := flag_ok h; exact ⟨Int.le_refl _, Int.le_refl _⟩
  rw [if_neg k2] at h
  by_cases k3 : o.kind = 3
  · rw [if_pos k3] at h; obtain ⟨m, _, rfl⟩ := move_ok h; exact ⟨Int.le_refl _, Int.le_refl _⟩
  rw [if_neg k3] at h
  by_cases k4 : o.kind = 4
  · rw [if_pos k4] at h; rw [destroy_ok h]; exact ⟨Int.le_refl _, Int.le_refl _⟩
  rw [if_neg k4] at h
  by_cases k5 : o.kind = 5
  · rw [if_pos k5] at h; rw [(add_ok h).2]; exact ⟨Int.le_refl _, by show A.nb ≤ A.nb + 1; omega⟩
  rw [if_neg k5] at h
  by_cases k6 : o.kind = 6
  · rw [if_pos k6] at h; rw [(boxes_ok h).2]; exact ⟨Int.le_refl _, Int.le_refl _⟩
  rw [if_neg k6] at h
  by_cases k7 : o.kind = 7
  · rw [if_pos k7] at h; rw [(boxes_ok h).2]; exact ⟨Int.le_refl _, Int.le_refl _⟩
  rw [if_neg k7] at h
  by_cases k8 : o.kind = 8
  · rw [if_pos k8] at h; rw [(drop_ok h).2.2]; exact ⟨Int.le_refl _, Int.le_refl _⟩
  rw [if_neg k8] at h
  by_cases k9 : o.kind = 9
  · rw [if_pos k9] at h; have := set_ok h; omega
  rw [if_neg k9] at h
  by_cases k10 : o.kind = 10
  · rw [if_pos k10] at h; have := unset_ok h; omega
  rw [if_neg k10] at h
  by_cases k11 : o.kind = 11
  · rw [if_pos k11] at h; have := choose_ok h; omega
  rw [if_neg k11] at h
  by_cases k12 : o.kind = 12
  · rw [if_pos k12] at h; have := answer_ok h; omega
  rw [if_neg k12] at h
  cases h
theorem apply_nums (g : GoodP A) (o : Opr) : A.nm ≤ (applyA A o).1.nm ∧ A.nb ≤ (applyA A o).1.nb := by
  rcases apply_st g o with ⟨_, _, n, h, _⟩ | ⟨_, h, _⟩
  · exact one_nums h
  · rw [h]; exact ⟨Int.le_refl _, Int.le_refl _⟩
theorem apply_ok (g : GoodP A) {o : Opr} (h : (applyA A o).2.2 = 0) : (applyA A o).1.st = A.st + 1 ∧ oneA (nextA A) o = .ok ((applyA A o).1, (applyA A o).2.1) := by
  rcases apply_st g o with ⟨_, h1, n, h2, h3⟩ | ⟨h1, _⟩
  · rw [h3]; exact ⟨h1, h2⟩
  · exact absurd h h1
theorem apply_no (g : GoodP A) {o : Opr} (h : (applyA A o).2.2 ≠ 0) : (applyA A o).1 = A ∧ (applyA A o).2.1 = 0 := by
  rcases apply_st g o with ⟨h1, _⟩ | ⟨_, h1⟩
  · exact absurd h1 h
  · exact h1
theorem find_app (l : List Ml) (m : Ml) (h : ∀ x ∈ l, x.id ≠ m.id) : findA (l ++ [m]) m.id = some m := by
  unfold findA
  rw [List.find?_append, List.find?_eq_none.2 fun x hx => by simpa using h x hx]
  simp
theorem stays_mail (g : GoodP A) (hk : o.kind = 1) (h : (applyA A o).2.2 = 0) : (applyA A o).2.1 = A.nm ∧ (applyA A o).1.nm = A.nm + 1 ∧ ∃ m, findA (applyA A o).1.mails A.nm = some m ∧ m.mod = (applyA A o).1.st ∧ m.blob = o.blob ∧ m.at_ = o.at_ ∧ m.size = o.size := by
  have h1 := (apply_ok g h).2
  simp only [oneA, hk, if_true] at h1
  have h2 := mail_ok h1
  rw [Prod.mk.injEq] at h2
  refine ⟨h2.2, by rw [h2.1]; rfl, ⟨(nextA A).nm, o.blob, sortI o.boxes, sortT o.add, o.at_, o.size, (nextA A).st⟩, ?_, by rw [h2.1], rfl, rfl, rfl⟩
  rw [h2.1]
  exact find_app _ _ fun x hx => by have := (g.fit x hx).id; show x.id ≠ A.nm; omega
theorem stays_add (g : GoodP A) (hk : o.kind = 5) (h : (applyA A o).2.2 = 0) : (applyA A o).2.1 = A.nb ∧ (applyA A o).1.nb = A.nb + 1 ∧ fullL (applyA A o).1.boxes A.nb ≠ [] := by
  have h1 := (apply_ok g h).2
  have gB := good_apply g o
  simp only [oneA, hk, if_true] at h1
  obtain ⟨h0, h2⟩ := add_ok h1
  rw [Prod.mk.injEq] at h2
  refine ⟨h2.2, by rw [h2.1]; rfl, ?_⟩
  have hm : (⟨A.nb, o.up, o.name, o.role⟩ : Bx) ∈ (applyA A o).1.boxes := by
    rw [h2.1]
    show _ ∈ (addL A.boxes o.up o.name o.role A.nb).1
    have h0 : (addL A.boxes o.up o.name o.role A.nb).2 = 0 := h0
    rw [add_res, if_pos h0]
    exact mem_ins.2 (.inl rfl)
  rw [fullL, if_pos ((rightL_iff _).2 gB.bx)]
  exact full_ne gB.bx hm
theorem find_upd {f : Ml → Ml} {id : Int} (hf : ∀ m, (f m).id = m.id) : ∀ (l : List Ml) {m : Ml}, findA l id = some m → findA (updA l id f) id = some (f m)
  | [], m, h => by simp [findA] at h
  | x :: r, m, h => by
    unfold findA at h ⊢
    rw [List.find?_cons] at h
    rw [updA]
    by_cases e : x.id = id
    · rw [decide_eq_true e] at h
      injection h with h
      subst h
      rw [if_pos e, List.find?_cons, decide_eq_true (show (f x).id = id from (hf x).trans e)]
    · rw [decide_eq_false e] at h
      rw [if_neg e, List.find?_cons, decide_eq_false e]
      exact find_upd hf r h
theorem of_find {m : Ml} (h : ofA A o = .ok m) : findA A.mails o.id = some m := by
  unfold ofA at h
  split at h
  · cases h
  · rename_i m' hm
    split at h
    · cases h
    · injection h with h
      rw [← h]; exact hm
theorem stays_upd (g : GoodP A) (hk : o.kind = 2 ∨ o.kind = 3) (h : (applyA A o).2.2 = 0) : ∃ m, findA (applyA A o).1.mails o.id = some m ∧ m.mod = (applyA A o).1.st := by
  have h1 := (apply_ok g h).2
  rcases hk with hk | hk
  · unfold oneA at h1
    rw [hk] at h1
    obtain ⟨m, hm, h2⟩ := flag_ok h1
    rw [Prod.mk.injEq] at h2
    have hf := of_find hm
    rw [show (nextA A).mails = A.mails from rfl] at hf
    rw [h2.1]
    exact ⟨_, find_upd (f := fun m => { m with flags := newFlags m o, mod := (nextA A).st }) (fun _ => rfl) A.mails hf, rfl⟩
  · unfold oneA at h1
    rw [hk] at h1
    obtain ⟨m, hm, h2⟩ := move_ok h1
    rw [Prod.mk.injEq] at h2
    have hf := of_find hm
    rw [show (nextA A).mails = A.mails from rfl] at hf
    rw [h2.1]
    exact ⟨_, find_upd (f := fun m => { m with boxes := sortI o.boxes, mod := (nextA A).st }) (fun _ => rfl) A.mails hf, rfl⟩
/-! ### Flags -/
theorem upd_get {f : Ml → Ml} {id : Int} : ∀ (l : List Ml) (i : Nat) (h : i < l.length) (h' : i < (updA l id f).length), l[i].id ≠ id → (updA l id f)[i] = l[i]
  | [], i, h, _, _ => by simp at h
  | x :: r, i, h, h', hn => by
    by_cases e : x.id = id
    · cases i with
      | zero => exact absurd e hn
      | succ i => simp only [updA, if_pos e, List.getElem_cons_succ]
    · cases i with
      | zero => simp only [updA, if_neg e, List.getElem_cons_zero]
      | succ i =>
        simp only [updA, if_neg e, List.getElem_cons_succ]
        exact upd_get r i (by simpa using h) _ hn
theorem upd_len {f : Ml → Ml} {id : Int} : ∀ l : List Ml, (updA l id f).length = l.length
  | [] => rfl
  | x :: r => by
    rw [updA]
    split
    · rfl
    · rw [List.length_cons, List.length_cons, upd_len r]
/-- What OFlags does to the messages. -/
structure FlagsP (A B : Acc) (o : Opr) (e : Nat) : Prop where
  none_ : findA A.mails o.id = none → findA B.mails o.id = none ∧ e = 5
  len : B.mails.length = A.mails.length
  some_ : ∀ m, findA A.mails o.id = some m → ∃ n, findA B.mails o.id = some n ∧ (e = 0 → n.boxes = m.boxes ∧ n.mod = B.st ∧ ∀ f, f ∈ n.flags ↔ (f ∈ m.flags ∨ f ∈ o.add) ∧ f ∉ o.drop)
  other : e = 0 → ∀ i (h : i < A.mails.length) (h' : i < B.mails.length), A.mails[i].id ≠ o.id → B.mails[i] = A.mails[i]
theorem flags_says (g : GoodP A) (hk : o.kind = 2) : FlagsP A (applyA A o).1 o (applyA A o).2.2 := by
  by_cases h : (applyA A o).2.2 = 0
  · have h1 := (apply_ok g h).2
    unfold oneA at h1
    rw [hk] at h1
    obtain ⟨m, hm, h2⟩ := flag_ok h1
    rw [Prod.mk.injEq] at h2
    have hfm := of_find hm
    have hfm : findA A.mails o.id = some m := hfm
    rw [h, h2.1]
    refine ⟨fun e => (by rw [hfm] at e; cases e), upd_len _, fun m' e => ?_, fun _ i hi hi' hn => upd_get _ _ _ _ hn⟩
    rw [hfm] at e
    injection e with e
    subst e
    refine ⟨_, find_upd (f := fun m => { m with flags := newFlags m o, mod := (nextA A).st }) (fun _ => rfl) A.mails hfm, fun _ => ⟨rfl, rfl, fun f => ?_⟩⟩
    show f ∈ newFlags m o ↔ _
    unfold newFlags
    rw [List.mem_filter, sortT, mem_sortD stoT, List.mem_append]
    simp
  · obtain ⟨h1, h2⟩ := apply_no g h
    rw [h1]
    refine ⟨fun e => ⟨e, ?_⟩, rfl, fun m e => ⟨m, e, fun q => absurd q h⟩, fun q => absurd q h⟩
    have : oneA (nextA A) o = .error 5 := by
      unfold oneA
      rw [hk]
      show flagA (nextA A) o = _
      unfold flagA ofA
      rw [show (nextA A).mails = A.mails from rfl, e]
    unfold applyA
    rw [this]
/-! ### Boxes -/
/-- The numbers of the messages in a mailbox. -/
def inM (l : List Ml) (b : Int) : List Int := (l.filter fun m => decide (b ∈ m.boxes)).map (·.id)
theorem mail_inj (g : GoodP A) {x y : Ml} (hx : x ∈ A.mails) (hy : y ∈ A.mails) (he : x.id = y.id) : x = y := by
  obtain ⟨i, hi, rfl⟩ := List.getElem_of_mem hx
  obtain ⟨j, hj, rfl⟩ := List.getElem_of_mem hy
  have hp := List.pairwise_iff_getElem.1 g.asc
  rcases Nat.lt_trichotomy i j with h | rfl | h
  · have := hp i j hi hj h; omega
  · rfl
  · have := hp j i hj hi h; omega
theorem in_iff (g : GoodP A) {m : Ml} (hm : m ∈ A.mails) (b : Int) : m.id ∈ inM A.mails b ↔ b ∈ m.boxes := by
  unfold inM
  rw [List.mem_map]
  constructor
  · rintro ⟨x, hx, e⟩
    rw [List.mem_filter] at hx
    rw [← mail_inj g hx.1 hm e]
    simpa using hx.2
  · intro h
    exact ⟨m, List.mem_filter.2 ⟨hm, by simpa using h⟩, rfl⟩
theorem full_in (g : GoodP A) {m : Ml} (hm : m ∈ A.mails) {b : Int} (hb : b ∈ m.boxes) : fullL A.boxes b ≠ [] := by
  obtain ⟨x, hx, e⟩ := (hasId_iff _ _).1 ((g.fit m hm).there b hb)
  rw [fullL, if_pos ((rightL_iff _).2 g.bx), ← e]
  exact full_ne g.bx hx
theorem find_mem (g : GoodP A) {m : Ml} (hm : m ∈ A.mails) : findA A.mails m.id = some m := by
  cases h : findA A.mails m.id with
  | none =>
    unfold findA at h
    rw [List.find?_eq_none] at h
    exact absurd (decide_eq_true (rfl : m.id = m.id)) (h m hm)
  | some x =>
    obtain ⟨h1, h2⟩ := find_id h
    rw [mail_inj g h1 hm h2]
structure DropP (A B : Acc) (id : Int) : Prop where
  len : B.mails.length = A.mails.length
  none_ : inM B.mails id = []
  full : fullL B.boxes id = []
  each : ∀ m ∈ A.mails, ∃ n, findA B.mails m.id = some n ∧ (id ∈ m.boxes → n.boxes.length + 1 = m.boxes.length ∧ n.mod = B.st) ∧ (id ∉ m.boxes → n = m)
theorem drop_says (g : GoodP A) (hk : o.kind = 8) (h : (applyA A o).2.2 = 0) : DropP A (applyA A o).1 o.box := by
  have gB := good_apply g o
  have h1 := (apply_ok g h).2
  unfold oneA at h1
  rw [hk] at h1
  obtain ⟨h0, hne, h2⟩ := drop_ok h1
  rw [Prod.mk.injEq] at h2
  have hms : (applyA A o).1.mails = A.mails.map (outOf (applyA A o).1.st o.box) := by rw [h2.1]; rfl
  have hbs : (applyA A o).1.boxes = delL A.boxes o.box := by
    rw [h2.1]
    show (dropL A.boxes o.box).1 = _
    have h0 : (dropL A.boxes o.box).2 = 0 := h0
    rw [drop_res, if_pos h0]
  have hno : ∀ m ∈ A.mails, o.box ∉ (outOf (applyA A o).1.st o.box m).boxes := fun m hm => by
    unfold outOf
    split
    · exact (asc_nodup (g.fit m hm).asc).not_mem_erase
    · assumption
  refine ⟨by rw [hms, List.length_map], ?_, ?_, fun m hm => ⟨outOf (applyA A o).1.st o.box m, ?_, fun hb => ?_, fun hb => ?_⟩⟩
  · unfold inM
    rw [hms]
    refine congrArg (List.map _) (List.filter_eq_nil_iff.2 fun x hx => ?_)
    obtain ⟨m, hm, rfl⟩ := List.mem_map.1 hx
    simpa using hno m hm
  · rw [fullL, if_pos ((rightL_iff _).2 gB.bx)]
    refine full_none gB.bx fun b hb => ?_
    rw [hbs, mem_del] at hb
    exact hb.2
  · rw [← outOf_id (applyA A o).1.st o.box m]
    exact find_mem gB (by rw [hms]; exact List.mem_map_of_mem hm)
  · unfold outOf
    rw [if_pos hb]
    refine ⟨?_, rfl⟩
    show (m.boxes.erase o.box).length + 1 = _
    rw [List.length_erase_of_mem hb]
    have := List.length_pos_of_mem hb
    omega
  · unfold outOf
    rw [if_neg hb]
end
end Go.Cs

-- alias Tryz
namespace Go.Proofs.YtohhkegmbgancaaGreatDoor
open Go.Shelf Go.RowKit Go.Pw Go.Vc Go.Cs Go.Lib
set_option linter.unusedVariables false
set_option maxRecDepth 100000
theorem dg_neq (x y : Dg) (a b : Operand) {K : Value → World → Prop} {w : World} (k : K (.bool (!decide (x = y))) w) :
    RunV Tryz.prog (do eqGuard .neq 24 a b (.agg (dgC x).toArray) (.agg (dgC y).toArray); binOp .neq 24 (.agg (dgC x).toArray) (.agg (dgC y).toArray)) w K := by
  refine RunV.of ?_ k
  rw [Sem.run_bind, run_eqGuard_agg w .neq 24 a b _ _ (by kernel_rfl), Result.andThen_ok, run_neq_struct, dgC_eq, dgC_eq]
  rw [show (10000 : Nat) = 9998 + 2 from rfl, eq_cells 9998 24 5 32 w (by rfl) (by rfl) (fun w => by rfl) (dgL x) (dgL y) rfl rfl]
  simp only [Result.andThen_ok, dgL_inj]
theorem str_nil' : str [] = (⟨#[]⟩ : ByteArray) := rfl
/-! ### The small example -/
def zD : Dg := ⟨0, 0, 0, 0, 0, 0, 0, 0, 0, 0, 0, 0, 0, 0, 0, 0, 0, 0, 0, 0, 0, 0, 0, 0, 0, 0, 0, 0, 0, 0, 0, 0⟩
def seenT : List UInt8 := [115, 101, 101, 110]
def smo1 : Opr := ⟨1, 0, 0, 0, [], [], [], zD, [1, 1], [seenT], [], 0, 0, -1⟩
def smo2 : Opr := ⟨2, 1, 0, 0, [], [], [], zD, [], [[98], [97]], [seenT], 0, 0, 1⟩
def smo3 : Opr := ⟨2, 1, 0, 0, [], [], [], zD, [], [], [], 0, 0, 1⟩
def smo4 : Opr := ⟨8, 0, 1, 0, [], [], [], zD, [], [], [], 0, 0, 0⟩
def smo5 : Opr := ⟨5, 0, 0, 0, [120], [], [], zD, [], [], [], 0, 0, 0⟩
def smA1 : Acc := (applyA newA smo1).1
def smA2 : Acc := (applyA smA1 smo2).1
def smA3 : Acc := (applyA smA2 smo5).1
def smM : Ml := ⟨1, zD, [1], [[97], [98]], 0, 0, 2⟩
theorem sm1 : (applyA newA smo1).2 = (1, 0) := by decide +kernel
theorem sm2 : (applyA smA1 smo2).2 = (0, 0) := by decide +kernel
theorem sm3 : (applyA smA2 smo3).2.2 = 17 := by decide +kernel
theorem sm4 : (applyA smA2 smo4).2.2 = 20 := by decide +kernel
theorem sm5 : (applyA smA2 smo5).2 = (2, 0) := by decide +kernel
theorem sm6 : findL smA3.mails 1 = some smM := by decide +kernel
theorem sm7 : smA3.st = 3 := by decide +kernel
theorem sm8 : inL smA3.mails 1 = [1] := by decide +kernel
theorem sm9 : inL smA3.mails 2 = [] := by decide +kernel
theorem smG1 : GoodP smA1 := good_apply good_new smo1
theorem smG2 : GoodP smA2 := good_apply smG1 smo2
theorem smG3 : GoodP smA3 := good_apply smG2 smo5
theorem fit_of {A : Acc} (g : GoodP A) : Fit A := good_fit g.toGoodQ (by have := g.top; unfold M40 at this; omega)
theorem fito (o : Opr) (h : o.boxes.length ≤ 2 ∧ o.add.length ≤ 2 ∧ o.drop.length ≤ 2 ∧ (∀ f ∈ o.add, f.length ≤ 9) ∧ (∀ f ∈ o.drop, f.length ≤ 9) ∧ o.name.length ≤ 9 ∧ o.role.length ≤ 9 ∧ o.text.length ≤ 9) : FitO o :=
  ⟨by omega, by omega, by omega, fun f hf => Nat.le_trans (h.2.2.2.1 f hf) (by decide), fun f hf => Nat.le_trans (h.2.2.2.2.1 f hf) (by decide), by omega, by omega, by omega⟩
theorem smF1 : FitO smo1 := fito _ (by decide)
theorem smF2 : FitO smo2 := fito _ (by decide)
theorem smF3 : FitO smo3 := fito _ (by decide)
theorem smF4 : FitO smo4 := fito _ (by decide)
theorem smF5 : FitO smo5 := fito _ (by decide)
abbrev nSl : Sl := ⟨none, 0, 0⟩
theorem bop1 (s t : Sl) (w : World) : (Instr.build 28 [(0, .int .i64 1), (8, .slice s.a s.n s.c), (9, .slice t.a t.n t.c), (13, .int .i64 (-1))].toArray).run Tryz.prog w = .ok (.agg (opC ⟨s, t, nSl⟩ smo1).toArray) w := by
  simp [Instr.build, Instr.fill, go_sem, Tryz.runUnderlying28, opC, smo1, dgC, zD, str_nil']
theorem bop2 (s t : Sl) (w : World) : (Instr.build 28 [(0, .int .i64 2), (1, .int .i64 1), (9, .slice s.a s.n s.c), (10, .slice t.a t.n t.c), (13, .int .i64 1)].toArray).run Tryz.prog w = .ok (.agg (opC ⟨nSl, s, t⟩ smo2).toArray) w := by
  simp [Instr.build, Instr.fill, go_sem, Tryz.runUnderlying28, opC, smo2, dgC, zD, str_nil']
theorem bop3 (w : World) : (Instr.build 28 [(0, .int .i64 2), (1, .int .i64 1), (13, .int .i64 1)].toArray).run Tryz.prog w = .ok (.agg (opC ⟨nSl, nSl, nSl⟩ smo3).toArray) w := by
  simp [Instr.build, Instr.fill, go_sem, Tryz.runUnderlying28, opC, smo3, dgC, zD, str_nil']
theorem bop4 (w : World) : (Instr.build 28 [(0, .int .i64 8), (2, .int .i64 1)].toArray).run Tryz.prog w = .ok (.agg (opC ⟨nSl, nSl, nSl⟩ smo4).toArray) w := by
  simp [Instr.build, Instr.fill, go_sem, Tryz.runUnderlying28, opC, smo4, dgC, zD, str_nil']
theorem bop5 (w : World) : (Instr.build 28 [(0, .int .i64 5), (4, .string ⟨#[120]⟩)].toArray).run Tryz.prog w = .ok (.agg (opC ⟨nSl, nSl, nSl⟩ smo5).toArray) w := by
  simp [Instr.build, Instr.fill, go_sem, Tryz.runUnderlying28, opC, smo5, dgC, zD, str_nil']
  rfl
theorem bsI2 (a b : Int) (w : World) : (Instr.buildSlice 25 2 [(0, .int .i64 a), (1, .int .i64 b)].toArray).run Tryz.prog w = .ok (.slice (some ⟨w.heap.size, 0, none⟩) 2 2) (w.alloc (.cells (List.toArray [.int .i64 a, .int .i64 b]) 3)) := by
  simp [Instr.buildSlice, go_sem, Tryz.runUnderlying25]
theorem bsT1 (a : ByteArray) (w : World) : (Instr.buildSlice 26 1 [(0, .string a)].toArray).run Tryz.prog w = .ok (.slice (some ⟨w.heap.size, 0, none⟩) 1 1) (w.alloc (.cells (List.toArray [.string a]) 9)) := by
  simp [Instr.buildSlice, go_sem, Tryz.runUnderlying26]
theorem bsT2 (a b : ByteArray) (w : World) : (Instr.buildSlice 26 2 [(0, .string a), (1, .string b)].toArray).run Tryz.prog w = .ok (.slice (some ⟨w.heap.size, 0, none⟩) 2 2) (w.alloc (.cells (List.toArray [.string a, .string b]) 9)) := by
  simp [Instr.buildSlice, go_sem, Tryz.runUnderlying26]
theorem op_dgo {w : World} {b f : Nat} {v : Ov} {o : Opr} (h : At w b f (opC v o)) : At w b (f + 7) (dgC o.blob) := fun i u hi => by
  have hl : (dgC o.blob).length = 32 := rfl
  have hi2 : i < 32 := by have := (List.getElem?_eq_some_iff.1 hi).1; omega
  have := h (7 + i) u (by
    unfold opC
    rw [List.getElem?_append_right (by simp), show 7 + i - List.length [Value.int .i64 o.kind, .int .i64 o.id, .int .i64 o.box, .int .i64 o.up, .string (str o.name), .string (str o.role), .string (str o.text)] = i by simp, List.getElem?_append_left (by omega)]
    exact hi)
  rw [show f + (7 + i) = f + 7 + i by omega] at this
  exact this
/-- A fresh row. -/
theorem row_new {α : Type} {w : World} {b : Nat} (c : α → List Value) (l : List α) (n : Nat) (h : At w b 0 (l.flatMap c)) (hb : b < w.heap.size) : RowO w (.slice (some ⟨b, 0, none⟩) l.length n) c l := ⟨_, n, rfl, fun _ => ⟨b, 0, rfl, hb, h⟩⟩
end Go.Proofs.YtohhkegmbgancaaGreatDoor

-- alias Tryz
namespace Go.Proofs.YtohhkegmbgancaaGreatDoor
open Go.Shelf Go.RowKit Go.Pw Go.Vc Go.Cs Go.Lib
set_option linter.unusedVariables false
set_option maxRecDepth 100000
section
variable {w : World}
set_option maxHeartbeats 8000000 in
theorem lw_small42 (hE : BEnv w) : Calls Tryz.prog 7 #[] w fun e w' => e = .returned (.bool true) ∧ Keeps w w' none_ := by
  have fA0 := fit_of good_new
  have fA1 := fit_of smG1
  have fA2 := fit_of smG2
  have fA3 := fit_of smG3
  refine calls_of_vc (args := []) Tryz.func7 rfl (Nat.le_of_ble_eq_true rfl) ?_; refine Sat.go hmix ?_; conv => whnf
  refine CallS.of (Tryz.call9 _ _) (ac_New (w := w) hE) ?_
  rintro e w1 ⟨h0, rfl, st0, k1⟩
  have hM0 : h0.M.n = 0 := by
    obtain ⟨lx, h1, h2, _⟩ := st0.read.m
    have := RowO.len h2
    rw [this]
    have := congrArg List.length h1
    rw [List.length_map] at this
    rw [this]; rfl
  refine ⟨_, rfl, ?_⟩; (first | refine Then.go hmix ?_ | refine Sat.go hmix ?_ | refine ResK.go ?_ | skip); conv => whnf
  refine KGO ?_
  refine Store.fresh (vs := accC h0 newA) (by rfl) rfl (flat_of (by rfl)) ?_
  have a_b1 := at_fresh w1 36 (accC h0 newA)
  have k_w2 : Keeps w1 (w1.alloc (.cells (List.toArray (accC h0 newA)) 36)) none_ := (Keeps.refl _ _).alloc _
  have z_w2 : (w1.alloc (.cells (List.toArray (accC h0 newA)) 36)).heap.size = w1.heap.size + 1 := by simp
  generalize w1.alloc (.cells (List.toArray (accC h0 newA)) 36) = w2 at *
  generalize hs_b1 : w1.heap.size = b1 at *
  have K2 := k1.trans0 k_w2
  have st0 := st0.keep k_w2
  have kr2 : Keeps w2 w2 none_ := Keeps.refl _ _
  refine KGO ?_
  refine RunV.of (bsI2 _ _ _) ?_
  have k_w3 : Keeps w2 (w2.alloc (.cells (List.toArray [.int .i64 1, .int .i64 1]) 3)) none_ := (Keeps.refl _ _).alloc _
  have r3 : RowI (w2.alloc (.cells (List.toArray [.int .i64 1, .int .i64 1]) 3)) (.slice (some ⟨w2.heap.size, 0, none⟩) 2 2) [1, 1] := row_new inC [1, 1] 2 (at_fresh _ _ _) (by simp)
  generalize w2.alloc (.cells (List.toArray [.int .i64 1, .int .i64 1]) 3) = w3 at *
  generalize w2.heap.size = bb3 at *
  refine KGO ?_
  refine RunV.of (bsT1 _ _) ?_
  have k_w4 : Keeps w3 (w3.alloc (.cells (List.toArray [.string ⟨#[115, 101, 101, 110]⟩]) 9)) none_ := (Keeps.refl _ _).alloc _
  have r4 : RowT (w3.alloc (.cells (List.toArray [.string ⟨#[115, 101, 101, 110]⟩]) 9)) (.slice (some ⟨w3.heap.size, 0, none⟩) 1 1) [seenT] := row_new txC [seenT] 1 (at_fresh _ _ _) (by simp)
  generalize w3.alloc (.cells (List.toArray [.string ⟨#[115, 101, 101, 110]⟩]) 9) = w4 at *
  generalize w3.heap.size = bb4 at *
  have K4 := (K2.trans0 k_w3).trans0 k_w4
  have J4 := k_w3.trans0 k_w4
  refine KGO ?_
  refine RunV.of (bop1 ⟨_, _, _⟩ ⟨_, _, _⟩ _) ?_
  refine KGO ?_
  refine CallS.of (Tryz.call10 _ _) (ac_Apply (w := w4) (st0.keep J4).read fA0 (by decide) good_new.sasc ⟨r3.keep k_w4, r4, rowO_nil _⟩ smF1 (hE.keep K4)) ?_
  rintro e w5 ⟨h1, rfl, st1, k5⟩
  rw [sm1]
  rw [show (applyA newA smo1).1 = smA1 from rfl] at st1 ⊢
  have K5 := K4.trans0 k5
  dsimp only
  refine ⟨_, rfl, ?_⟩; (first | refine Then.go hmix ?_ | refine Sat.go hmix ?_ | refine ResK.go ?_ | skip); conv => whnf
  refine KGO ?_
  refine Store.fresh (vs := accC h1 smA1) (by rfl) rfl (flat_of (by rfl)) ?_
  have a_b6 := at_fresh w5 36 (accC h1 smA1)
  have k_w6 : Keeps w5 (w5.alloc (.cells (List.toArray (accC h1 smA1)) 36)) none_ := (Keeps.refl _ _).alloc _
  have z_w6 : (w5.alloc (.cells (List.toArray (accC h1 smA1)) 36)).heap.size = w5.heap.size + 1 := by simp
  generalize w5.alloc (.cells (List.toArray (accC h1 smA1)) 36) = w6 at *
  generalize hs_b6 : w5.heap.size = b6 at *
  have K6 := K5.trans0 k_w6
  have st1 := st1.keep k_w6
  have a_b1 := at_mono a_b1 ((J4.trans0 k5).trans0 k_w6)
  clear r3 r4 k_w3 k_w4 J4 k5 kr2 st0
  have kr6 : Keeps w6 w6 none_ := Keeps.refl _ _
  refine KGO ?_
  refine RunV.of (bsT2 _ _ _) ?_
  have k_w7 : Keeps w6 (w6.alloc (.cells (List.toArray [.string ⟨#[98]⟩, .string ⟨#[97]⟩]) 9)) none_ := (Keeps.refl _ _).alloc _
  have r7 : RowT (w6.alloc (.cells (List.toArray [.string ⟨#[98]⟩, .string ⟨#[97]⟩]) 9)) (.slice (some ⟨w6.heap.size, 0, none⟩) 2 2) [[98], [97]] := row_new txC [[98], [97]] 2 (at_fresh _ _ _) (by simp)
  generalize w6.alloc (.cells (List.toArray [.string ⟨#[98]⟩, .string ⟨#[97]⟩]) 9) = w7 at *
  generalize w6.heap.size = bb7 at *
  refine KGO ?_
  refine RunV.of (bsT1 _ _) ?_
  have k_w8 : Keeps w7 (w7.alloc (.cells (List.toArray [.string ⟨#[115, 101, 101, 110]⟩]) 9)) none_ := (Keeps.refl _ _).alloc _
  have r8 : RowT (w7.alloc (.cells (List.toArray [.string ⟨#[115, 101, 101, 110]⟩]) 9)) (.slice (some ⟨w7.heap.size, 0, none⟩) 1 1) [seenT] := row_new txC [seenT] 1 (at_fresh _ _ _) (by simp)
  generalize w7.alloc (.cells (List.toArray [.string ⟨#[115, 101, 101, 110]⟩]) 9) = w8 at *
  generalize w7.heap.size = bb8 at *
  have J8 := k_w7.trans0 k_w8
  have K8 := K6.trans0 J8
  refine KGO ?_
  refine RunV.of (bop2 ⟨_, _, _⟩ ⟨_, _, _⟩ _) ?_
  refine KGO ?_
  refine CallS.of (Tryz.call10 _ _) (ac_Apply (w := w8) (st1.keep J8).read fA1 (by have := smG1.top; unfold M40 at this; omega) smG1.sasc ⟨rowO_nil _, r7.keep k_w8, r8⟩ smF2 (hE.keep K8)) ?_
  rintro e w9 ⟨h2, rfl, st2, k9⟩
  rw [sm2]
  rw [show (applyA smA1 smo2).1 = smA2 from rfl] at st2 ⊢
  have K9 := K8.trans0 k9
  dsimp only
  refine ⟨_, rfl, ?_⟩; (first | refine Then.go hmix ?_ | refine Sat.go hmix ?_ | refine ResK.go ?_ | skip); conv => whnf
  refine KGO ?_
  refine Store.fresh (vs := accC h2 smA2) (by rfl) rfl (flat_of (by rfl)) ?_
  have a_b10 := at_fresh w9 36 (accC h2 smA2)
  have k_w10 : Keeps w9 (w9.alloc (.cells (List.toArray (accC h2 smA2)) 36)) none_ := (Keeps.refl _ _).alloc _
  have z_w10 : (w9.alloc (.cells (List.toArray (accC h2 smA2)) 36)).heap.size = w9.heap.size + 1 := by simp
  generalize w9.alloc (.cells (List.toArray (accC h2 smA2)) 36) = w10 at *
  generalize hs_b10 : w9.heap.size = b10 at *
  have K10 := K9.trans0 k_w10
  have st2 := st2.keep k_w10
  have a_b1 := at_mono a_b1 ((J8.trans0 k9).trans0 k_w10)
  clear r7 r8 k_w7 k_w8 J8 k9 kr6 st1 a_b6
  have kr10 : Keeps w10 w10 none_ := Keeps.refl _ _
  refine KGO ?_
  refine RunV.of (bop3 _) ?_
  refine KGO ?_
  refine CallS.of (Tryz.call10 _ _) (ac_Apply (w := w10) st2.read fA2 (by have := smG2.top; unfold M40 at this; omega) smG2.sasc ⟨rowO_nil _, rowO_nil _, rowO_nil _⟩ smF3 (hE.keep K10)) ?_
  rintro e w11 ⟨h3, rfl, -, k11⟩
  rw [sm3]
  have K11 := K10.trans0 k11
  refine ⟨_, rfl, ?_⟩; (first | refine Then.go hmix ?_ | refine Sat.go hmix ?_ | refine ResK.go ?_ | skip); conv => whnf
  refine KGO ?_
  refine Store.fresh (vs := accC h3 (applyA smA2 smo3).1) (by rfl) rfl (flat_of (by rfl)) ?_
  have a_b12 := at_fresh w11 36 (accC h3 (applyA smA2 smo3).1)
  have k_w12 : Keeps w11 (w11.alloc (.cells (List.toArray (accC h3 (applyA smA2 smo3).1)) 36)) none_ := (Keeps.refl _ _).alloc _
  have z_w12 : (w11.alloc (.cells (List.toArray (accC h3 (applyA smA2 smo3).1)) 36)).heap.size = w11.heap.size + 1 := by simp
  generalize w11.alloc (.cells (List.toArray (accC h3 (applyA smA2 smo3).1)) 36) = w12 at *
  generalize hs_b12 : w11.heap.size = b12 at *
  have K12 := K11.trans0 k_w12
  have st2 := st2.keep (k11.trans0 k_w12)
  have a_b1 := at_mono a_b1 (k11.trans0 k_w12)
  have a_b10 := at_mono a_b10 (k11.trans0 k_w12)
  clear k11 kr10 a_b12
  have kr12 : Keeps w12 w12 none_ := Keeps.refl _ _
  refine KGO ?_
  refine RunV.of (bop4 _) ?_
  refine KGO ?_
  refine CallS.of (Tryz.call10 _ _) (ac_Apply (w := w12) st2.read fA2 (by have := smG2.top; unfold M40 at this; omega) smG2.sasc ⟨rowO_nil _, rowO_nil _, rowO_nil _⟩ smF4 (hE.keep K12)) ?_
  rintro e w13 ⟨h4, rfl, -, k13⟩
  rw [sm4]
  have K13 := K12.trans0 k13
  refine ⟨_, rfl, ?_⟩; (first | refine Then.go hmix ?_ | refine Sat.go hmix ?_ | refine ResK.go ?_ | skip); conv => whnf
  refine KGO ?_
  refine Store.fresh (vs := accC h4 (applyA smA2 smo4).1) (by rfl) rfl (flat_of (by rfl)) ?_
  have a_b14 := at_fresh w13 36 (accC h4 (applyA smA2 smo4).1)
  have k_w14 : Keeps w13 (w13.alloc (.cells (List.toArray (accC h4 (applyA smA2 smo4).1)) 36)) none_ := (Keeps.refl _ _).alloc _
  have z_w14 : (w13.alloc (.cells (List.toArray (accC h4 (applyA smA2 smo4).1)) 36)).heap.size = w13.heap.size + 1 := by simp
  generalize w13.alloc (.cells (List.toArray (accC h4 (applyA smA2 smo4).1)) 36) = w14 at *
  generalize hs_b14 : w13.heap.size = b14 at *
  have K14 := K13.trans0 k_w14
  have st2 := st2.keep (k13.trans0 k_w14)
  have a_b1 := at_mono a_b1 (k13.trans0 k_w14)
  have a_b10 := at_mono a_b10 (k13.trans0 k_w14)
  clear k13 kr12 a_b14
  have kr14 : Keeps w14 w14 none_ := Keeps.refl _ _
  refine KGO ?_
  refine RunV.of (bop5 _) ?_
  refine KGO ?_
  refine CallS.of (Tryz.call10 _ _) (ac_Apply (w := w14) st2.read fA2 (by have := smG2.top; unfold M40 at this; omega) smG2.sasc ⟨rowO_nil _, rowO_nil _, rowO_nil _⟩ smF5 (hE.keep K14)) ?_
  rintro e w15 ⟨h5, rfl, st5, k15⟩
  rw [sm5]
  rw [show (applyA smA2 smo5).1 = smA3 from rfl] at st5 ⊢
  have K15 := K14.trans0 k15
  dsimp only
  refine ⟨_, rfl, ?_⟩; (first | refine Then.go hmix ?_ | refine Sat.go hmix ?_ | refine ResK.go ?_ | skip); conv => whnf
  refine KGO ?_
  refine Store.fresh (vs := accC h5 smA3) (by rfl) rfl (flat_of (by rfl)) ?_
  have a_b16 := at_fresh w15 36 (accC h5 smA3)
  have k_w16 : Keeps w15 (w15.alloc (.cells (List.toArray (accC h5 smA3)) 36)) none_ := (Keeps.refl _ _).alloc _
  have z_w16 : (w15.alloc (.cells (List.toArray (accC h5 smA3)) 36)).heap.size = w15.heap.size + 1 := by simp
  generalize w15.alloc (.cells (List.toArray (accC h5 smA3)) 36) = w16 at *
  generalize hs_b16 : w15.heap.size = b16 at *
  have K16 := K15.trans0 k_w16
  have st5 := st5.keep k_w16
  have a_b1 := at_mono a_b1 (k15.trans0 k_w16)
  clear k15 kr14 a_b10 st2
  have kr16 : Keeps w16 w16 none_ := Keeps.refl _ _
  have hml := fA3.ml
  have hmb := fA3.mb
  refine KGO ?_
  refine CallS.of (Tryz.call11 _ _) (ac_Find (w := w16) 1 st5.read (by omega) (fun m hm => by have := hmb m hm; omega)) ?_
  rintro e w17 ⟨y, rfl, hy, hyo, k17⟩
  rw [sm6] at hy ⊢
  dsimp only [Option.isSome, Option.getD] at hy ⊢
  obtain ⟨ym, yb, ya, yn, yc⟩ := y
  dsimp only at hy
  subst hy
  obtain ⟨fa, fc, hfe, hfr⟩ := hyo.f
  injection hfe with e1 e2 e3
  dsimp only at e1 e2 e3 hfr
  subst e1; subst e2; subst e3
  obtain ⟨fg, fo, rfl, hfg, hfat⟩ := hfr (by decide)
  have K17 := K16.trans0 k17
  refine ⟨_, rfl, ?_⟩; (first | refine Then.go hmix ?_ | refine Sat.go hmix ?_ | refine ResK.go ?_ | skip); conv => whnf
  refine KGO ?_
  refine Store.fresh (vs := mrC ⟨smM, yb, ⟨some ⟨fg, fo, none⟩, smM.flags.length, yc⟩⟩) (by rfl) rfl (flat_of (by rfl)) ?_
  have a_b18 := at_fresh w17 42 (mrC ⟨smM, yb, ⟨some ⟨fg, fo, none⟩, smM.flags.length, yc⟩⟩)
  have k_w18 : Keeps w17 (w17.alloc (.cells (List.toArray (mrC ⟨smM, yb, ⟨some ⟨fg, fo, none⟩, smM.flags.length, yc⟩⟩)) 42)) none_ := (Keeps.refl _ _).alloc _
  have z_w18 : (w17.alloc (.cells (List.toArray (mrC ⟨smM, yb, ⟨some ⟨fg, fo, none⟩, smM.flags.length, yc⟩⟩)) 42)).heap.size = w17.heap.size + 1 := by simp
  generalize w17.alloc (.cells (List.toArray (mrC ⟨smM, yb, ⟨some ⟨fg, fo, none⟩, smM.flags.length, yc⟩⟩)) 42) = w18 at *
  generalize hs_b18 : w17.heap.size = b18 at *
  have K18 := K17.trans0 k_w18
  have st5 := st5.keep (k17.trans0 k_w18)
  have hyo := hyo.keep k_w18
  have a_b1 := at_mono a_b1 (k17.trans0 k_w18)
  have a_b16 := at_mono a_b16 (k17.trans0 k_w18)
  clear k17 kr16
  have kr18 : Keeps w18 w18 none_ := Keeps.refl _ _
  have q1 : smM.flags.length = 2 := rfl
  have q2 : smM.mod = 2 := rfl
  have q3 := sm7
  have hfat := at_mono hfat k_w18
  have hf0 : w18.cell? ⟨fg, fo + 0, none⟩ = some (.string ⟨#[97]⟩) := at_txt (l := smM.flags) hfat (i := 0) (by decide)
  have hf0' : w18.cell? ⟨fg, fo, none⟩ = some (.string ⟨#[97]⟩) := hf0
  have i1 : (2 : Nat) = 2 := rfl
  clear hfr hml hmb
  refine KGO ?_
  refine Idx.lit (j := 0) rfl (by show 0 < 2; decide) ?_
  (first | refine Then.go hmix ?_ | refine Sat.go hmix ?_ | refine ResK.go ?_ | skip); conv => whnf
  refine KGO ?_
  refine CallS.of (Tryz.call24 _ _) (ac_Right (w := w18) st5.read fA3 (hE.keep K18)) ?_
  rintro e w19 ⟨rfl, k19⟩
  rw [good_right smG3]
  have K19 := K18.trans0 k19
  have a_b1 := at_mono a_b1 k19
  have a_b16 := at_mono a_b16 k19
  have kr19 : Keeps w19 w19 none_ := Keeps.refl _ _
  refine ⟨_, rfl, ?_⟩; (first | refine Then.go hmix ?_ | refine Sat.go hmix ?_ | refine ResK.go ?_ | skip); conv => whnf
  refine KGO ?_
  refine CallS.of (Tryz.call17 _ _) (ac_In (w := w19) 1 (st5.read.keep k19).m (by have := fA3.ml; omega) (fun m hm => by have := fA3.mb m hm; omega)) ?_
  rintro e w20 ⟨v20, rfl, o20, k20⟩
  obtain ⟨a20, c20, rfl⟩ := own_shape o20
  rw [sm8]
  have K20 := K19.trans0 k20
  have a_b1 := at_mono a_b1 k20
  have a_b16 := at_mono a_b16 k20
  have kr20 : Keeps w20 w20 none_ := Keeps.refl _ _
  refine ⟨_, rfl, ?_⟩; (first | refine Then.go hmix ?_ | refine Sat.go hmix ?_ | refine ResK.go ?_ | skip); conv => whnf
  refine KGO ?_
  refine CallS.of (Tryz.call17 _ _) (ac_In (w := w20) 2 (st5.read.keep (k19.trans0 k20)).m (by have := fA3.ml; omega) (fun m hm => by have := fA3.mb m hm; omega)) ?_
  rintro e w21 ⟨v21, rfl, o21, k21⟩
  obtain ⟨a21, c21, rfl⟩ := own_shape o21
  rw [sm9]
  have K21 := K20.trans0 k21
  have a_b1 := at_mono a_b1 k21
  have kr21 : Keeps w21 w21 none_ := Keeps.refl _ _
  refine ⟨_, rfl, ?_⟩; (first | refine Then.go hmix ?_ | refine Sat.go hmix ?_ | refine ResK.go ?_ | skip); conv => whnf
  refine KGO ?_
  exact ⟨by rw [hM0]; rfl, K21⟩
end
end Go.Proofs.YtohhkegmbgancaaGreatDoor
