/- Helper text of this claim: Ax1, Ax2, Ax3, Ae0, Ae1: lemmas and contracts that the proved statement rests on; no conditions of its own. -/
import Derived.Test.YtohhkegmbgancaaGreatDoorGBx5
import Derived.Test.YtohhkegmbgancaaGreatDoorGBx3
import Derived.Test.YtohhkegmbgancaaGreatDoorGAa3
namespace Go.Cs
open Go.Lib
set_option linter.unusedVariables false
/-! ### Operations, plain -/
def inB : List UInt8 := [105, 110, 98, 111, 120]
/-- The first message with the number, changed. -/
def updA : List Ml → Int → (Ml → Ml) → List Ml
  | [], _, _ => []
  | m :: r, id, f => if m.id = id then f m :: r else m :: updA r id f
def delA : List Ml → Int → List Ml
  | [], _ => []
  | m :: r, id => if m.id = id then r else m :: delA r id
def findA (l : List Ml) (id : Int) : Option Ml := l.find? fun m => decide (m.id = id)
/-- The message that an operation refers to, or the error. -/
def ofA (A : Acc) (o : Opr) : Except Nat Ml := match findA A.mails o.id with
  | none => .error 5
  | some m => if 0 ≤ o.if_ ∧ o.if_ ≠ m.mod then .error 17 else .ok m
def newFlags (m : Ml) (o : Opr) : List (List UInt8) := (sortT (m.flags ++ o.add)).filter fun f => !decide (f ∈ o.drop)
def mailA (A : Acc) (o : Opr) : Except Nat (Acc × Int) :=
  if o.boxes = [] ∨ flagsB o.add = false ∨ ¬ (0 ≤ o.at_ ∧ o.at_ ≤ 1099511627776) ∨ ¬ (0 ≤ o.size ∧ o.size ≤ 65536) then .error 1
  else if thereB A.boxes o.boxes = false then .error 5
  else if 4096 ≤ A.mails.length ∨ 20 < (sortT o.add).length ∨ 1099511627776 ≤ A.nm then .error 3
  else .ok ({ A with mails := A.mails ++ [⟨A.nm, o.blob, sortI o.boxes, sortT o.add, o.at_, o.size, A.st⟩], nm := A.nm + 1 }, A.nm)
def flagA (A : Acc) (o : Opr) : Except Nat (Acc × Int) := match ofA A o with
  | .error c => .error c
  | .ok m => if flagsB o.add = false ∨ flagsB o.drop = false then .error 1
    else if 20 < (newFlags m o).length then .error 3
    else .ok ({ A with mails := updA A.mails o.id fun m => { m with flags := newFlags m o, mod := A.st } }, 0)
def moveA (A : Acc) (o : Opr) : Except Nat (Acc × Int) := match ofA A o with
  | .error c => .error c
  | .ok m => if o.boxes = [] then .error 1
    else if thereB A.boxes o.boxes = false then .error 5
    else .ok ({ A with mails := updA A.mails o.id fun m => { m with boxes := sortI o.boxes, mod := A.st } }, 0)
def destroyA (A : Acc) (o : Opr) : Except Nat (Acc × Int) := match ofA A o with
  | .error c => .error c
  | .ok m => .ok ({ A with mails := delA A.mails o.id }, 0)
def addA (A : Acc) (o : Opr) : Except Nat (Acc × Int) :=
  if 1099511627776 ≤ A.nb then .error 3
  else if (addL A.boxes o.up o.name o.role A.nb).2 ≠ 0 then .error (addL A.boxes o.up o.name o.role A.nb).2
  else .ok ({ A with boxes := (addL A.boxes o.up o.name o.role A.nb).1, nb := A.nb + 1 }, A.nb)
def boxesA (A : Acc) (r : List Bx × Nat) : Except Nat (Acc × Int) := if r.2 ≠ 0 then .error r.2 else .ok ({ A with boxes := r.1 }, 0)
def nameA (A : Acc) (o : Opr) : Except Nat (Acc × Int) := boxesA A (nameL A.boxes o.box o.name)
def hangA (A : Acc) (o : Opr) : Except Nat (Acc × Int) := boxesA A (moveL A.boxes o.box o.up)
def outOf (st box : Int) (m : Ml) : Ml := if box ∈ m.boxes then { m with boxes := m.boxes.erase box, mod := st } else m
def dropA (A : Acc) (o : Opr) : Except Nat (Acc × Int) :=
  if (dropL A.boxes o.box).2 ≠ 0 then .error (dropL A.boxes o.box).2
  else if (A.boxes.any fun b => decide (b.id = o.box ∧ b.role = inB)) = true then .error 20
  else if (A.mails.any fun m => decide (m.boxes = [o.box])) = true then .error 20
  else .ok ({ A with boxes := (dropL A.boxes o.box).1, mails := A.mails.map (outOf A.st o.box) }, 0)
def hasS (l : List Sc) (nm : List UInt8) : Bool := l.any fun s => decide (s.name = nm)
def idxS (l : List Sc) (nm : List UInt8) : Nat := (l.takeWhile fun s => ltT s.name nm).length
def AscS (l : List Sc) : Prop := l.Pairwise fun a b => ltT a.name b.name = true
def setA (A : Acc) (o : Opr) : Except Nat (Acc × Int) :=
  if scB o.name = false then .error 1
  else if 32768 < o.text.length then .error 16
  else if hasS A.scripts o.name = true then .ok ({ A with scripts := A.scripts.set (idxS A.scripts o.name) ⟨o.name, o.text⟩ }, 0)
  else if 16 ≤ A.scripts.length then .error 3
  else .ok ({ A with scripts := A.scripts.take (idxS A.scripts o.name) ++ ⟨o.name, o.text⟩ :: A.scripts.drop (idxS A.scripts o.name) }, 0)
def unsetA (A : Acc) (o : Opr) : Except Nat (Acc × Int) :=
  if hasS A.scripts o.name = false then .error 5
  else if A.active = o.name then .error 20
  else .ok ({ A with scripts := A.scripts.take (idxS A.scripts o.name) ++ A.scripts.drop (idxS A.scripts o.name + 1) }, 0)
def chooseA (A : Acc) (o : Opr) : Except Nat (Acc × Int) :=
  if hasS A.scripts o.name = false ∧ o.name ≠ [] then .error 5 else .ok ({ A with active := o.name }, 0)
def seenA (l : List Sn) (o : Opr) : List Sn := (l.filter fun s => !decide (s.key = o.name)) ++ [⟨o.name, o.at_⟩]
def answerA (A : Acc) (o : Opr) : Except Nat (Acc × Int) :=
  if 1000 < o.name.length ∨ ¬ (0 ≤ o.at_ ∧ o.at_ ≤ 1099511627776) then .error 1
  else .ok ({ A with seen := (seenA A.seen o).drop ((seenA A.seen o).length - 256) }, 0)
def oneA (A : Acc) (o : Opr) : Except Nat (Acc × Int) :=
  if o.kind = 1 then mailA A o else if o.kind = 2 then flagA A o else if o.kind = 3 then moveA A o else if o.kind = 4 then destroyA A o
  else if o.kind = 5 then addA A o else if o.kind = 6 then nameA A o else if o.kind = 7 then hangA A o else if o.kind = 8 then dropA A o
  else if o.kind = 9 then setA A o else if o.kind = 10 then unsetA A o else if o.kind = 11 then chooseA A o else if o.kind = 12 then answerA A o else .error 1
def nextA (A : Acc) : Acc := { A with st := A.st + 1 }
/-- Apply: the account, the number made, the error. -/
def applyA (A : Acc) (o : Opr) : Acc × Int × Nat := match oneA (nextA A) o with
  | .error c => (A, 0, c)
  | .ok r => if 1099511627776 < r.1.st then (A, 0, 3) else (r.1, r.2, 0)
/-! ### Their lists, by places -/
theorem upd_set (f : Ml → Ml) (id : Int) : ∀ (l : List Ml) (i : Nat) (h : i < l.length), l[i].id = id → (∀ j (hj : j < i), (l[j]'(by omega)).id ≠ id) → updA l id f = l.set i (f l[i])
  | [], i, h, _, _ => by simp at h
  | m :: r, 0, h, he, _ => by
    have he : m.id = id := he
    rw [updA, if_pos he]; rfl
  | m :: r, i + 1, h, he, hn => by
    have h0 : m.id ≠ id := hn 0 (by omega)
    rw [updA, if_neg h0, upd_set f id r i (by simpa using h) he fun j hj => hn (j + 1) (by omega)]
    rfl
theorem del_take (id : Int) : ∀ (l : List Ml) (i : Nat) (h : i < l.length), l[i].id = id → (∀ j (hj : j < i), (l[j]'(by omega)).id ≠ id) → delA l id = l.take i ++ l.drop (i + 1)
  | [], i, h, _, _ => by simp at h
  | m :: r, 0, h, he, _ => by
    have he : m.id = id := he
    rw [delA, if_pos he]; rfl
  | m :: r, i + 1, h, he, hn => by
    have h0 : m.id ≠ id := hn 0 (by omega)
    rw [delA, if_neg h0, del_take id r i (by simpa using h) he fun j hj => hn (j + 1) (by omega)]
    rfl
end Go.Cs

namespace Go.Cs
open Go.Lib
set_option linter.unusedVariables false
/-! ### No operation hands back the error 0 -/
abbrev Ne0 (x : Except Nat (Acc × Int)) : Prop := x ≠ .error 0
theorem ite_n0 {c : Prop} [Decidable c] {x y : Except Nat (Acc × Int)} (hx : Ne0 x) (hy : Ne0 y) : Ne0 (if c then x else y) := by
  by_cases h : c
  · rw [if_pos h]; exact hx
  · rw [if_neg h]; exact hy
theorem err_n0 (n : Nat) : Ne0 (.error (n + 1)) := fun h => by injection h with h; omega
theorem ok_n0 (r : Acc × Int) : Ne0 (.ok r) := fun h => by injection h
theorem ofA_e {A : Acc} {o : Opr} {c : Nat} (h : ofA A o = .error c) : c = 5 ∨ c = 17 := by
  unfold ofA at h
  split at h
  · injection h with h; exact .inl h.symm
  · split at h
    · injection h with h; exact .inr h.symm
    · cases h
theorem of_n0 {A : Acc} {o : Opr} {f : Ml → Except Nat (Acc × Int)} (hf : ∀ m, Ne0 (f m)) : Ne0 (match ofA A o with | .error c => .error c | .ok m => f m) := by
  cases h : ofA A o with
  | error c =>
    intro e
    injection e with e
    have := ofA_e h
    omega
  | ok m => exact hf m
theorem boxes_n0 (A : Acc) (r : List Bx × Nat) : Ne0 (boxesA A r) := by
  unfold boxesA
  by_cases h : r.2 ≠ 0
  · rw [if_pos h]; intro e; injection e with e; exact h e
  · rw [if_neg h]; exact ok_n0 _
theorem mail_n0 (A : Acc) (o : Opr) : Ne0 (mailA A o) := ite_n0 (err_n0 0) (ite_n0 (err_n0 4) (ite_n0 (err_n0 2) (ok_n0 _)))
theorem flag_n0 (A : Acc) (o : Opr) : Ne0 (flagA A o) := of_n0 fun _ => ite_n0 (err_n0 0) (ite_n0 (err_n0 2) (ok_n0 _))
theorem move_n0 (A : Acc) (o : Opr) : Ne0 (moveA A o) := of_n0 fun _ => ite_n0 (err_n0 0) (ite_n0 (err_n0 4) (ok_n0 _))
theorem destroy_n0 (A : Acc) (o : Opr) : Ne0 (destroyA A o) := of_n0 fun _ => ok_n0 _
theorem add_n0 (A : Acc) (o : Opr) : Ne0 (addA A o) := ite_n0 (err_n0 2) (by
  by_cases h : (addL A.boxes o.up o.name o.role A.nb).2 ≠ 0
  · rw [if_pos h]; intro e; injection e with e; exact h e
  · rw [if_neg h]; exact ok_n0 _)
theorem drop_n0 (A : Acc) (o : Opr) : Ne0 (dropA A o) := by
  unfold dropA
  by_cases h : (dropL A.boxes o.box).2 ≠ 0
  · rw [if_pos h]; intro e; injection e with e; exact h e
  · rw [if_neg h]; exact ite_n0 (err_n0 19) (ite_n0 (err_n0 19) (ok_n0 _))
theorem set_n0 (A : Acc) (o : Opr) : Ne0 (setA A o) := ite_n0 (err_n0 0) (ite_n0 (err_n0 15) (ite_n0 (ok_n0 _) (ite_n0 (err_n0 2) (ok_n0 _))))
theorem unset_n0 (A : Acc) (o : Opr) : Ne0 (unsetA A o) := ite_n0 (err_n0 4) (ite_n0 (err_n0 19) (ok_n0 _))
theorem choose_n0 (A : Acc) (o : Opr) : Ne0 (chooseA A o) := ite_n0 (err_n0 4) (ok_n0 _)
theorem answer_n0 (A : Acc) (o : Opr) : Ne0 (answerA A o) := ite_n0 (err_n0 0) (ok_n0 _)
theorem one_n0 (A : Acc) (o : Opr) : Ne0 (oneA A o) := by
  unfold oneA
  exact ite_n0 (mail_n0 A o) (ite_n0 (flag_n0 A o) (ite_n0 (move_n0 A o) (ite_n0 (destroy_n0 A o) (ite_n0 (add_n0 A o) (ite_n0 (boxes_n0 _ _) (ite_n0 (boxes_n0 _ _) (ite_n0 (drop_n0 A o) (ite_n0 (set_n0 A o) (ite_n0 (unset_n0 A o) (ite_n0 (choose_n0 A o) (ite_n0 (answer_n0 A o) (err_n0 0))))))))))))
theorem one_err {A : Acc} {o : Opr} {c : Nat} (h : oneA A o = .error c) : c ≠ 0 := fun e => one_n0 A o (by rw [h, e])
end Go.Cs

namespace Go.Cs
open Go.Lib
set_option linter.unusedVariables false
/-! ### What account.Right reckons -/
def risesB {α : Type} (lt : α → α → Bool) : List α → Bool
  | a :: b :: r => lt a b && risesB lt (b :: r)
  | _ => true
theorem risesB_iff {α : Type} (lt : α → α → Bool) : ∀ l : List α, risesB lt l = true ↔ ∀ i (h : i + 1 < l.length), lt (l[i]'(by omega)) l[i + 1] = true
  | [] => by simp [risesB]
  | [a] => by simp [risesB]
  | a :: b :: r => by
    rw [risesB, Bool.and_eq_true, risesB_iff lt (b :: r)]
    constructor
    · rintro ⟨h1, h2⟩ i hi
      cases i with
      | zero => exact h1
      | succ i => exact h2 i (by simpa using hi)
    · intro h
      exact ⟨h 0 (by simp), fun i hi => h (i + 1) (by simpa using hi)⟩
theorem risesB_map {α β : Type} (lt : β → β → Bool) (f : α → β) (l : List α) : risesB (fun x y => lt (f x) (f y)) l = risesB lt (l.map f) := by
  rw [Bool.eq_iff_iff, risesB_iff, risesB_iff]
  simp
theorem rises_pair {α : Type} {lt : α → α → Bool} (tr : ∀ a b c, lt a b = true → lt b c = true → lt a c = true) : ∀ {l : List α}, risesB lt l = true ↔ l.Pairwise fun a b => lt a b = true
  | [] => by simp [risesB]
  | [a] => by simp [risesB]
  | a :: b :: r => by
    rw [risesB, Bool.and_eq_true, rises_pair tr (l := b :: r), List.pairwise_cons (a := a)]
    constructor
    · rintro ⟨h1, h2⟩
      refine ⟨fun x hx => ?_, h2⟩
      rcases List.mem_cons.1 hx with rfl | hx
      · exact h1
      · exact tr _ _ _ h1 ((List.pairwise_cons.1 h2).1 x hx)
    · rintro ⟨h1, h2⟩
      exact ⟨h1 b (by simp), h2⟩
def inR (n lo hi : Int) : Bool := decide (lo ≤ n ∧ n ≤ hi)
def fitM (A : Acc) (m : Ml) : Bool := inR m.id 1 (A.nm - 1) && (decide (0 < m.boxes.length) && (risesB ltI m.boxes && (thereB A.boxes m.boxes && (decide (m.flags.length ≤ 20) && (risesB ltT m.flags && (flagsB m.flags && (inR m.at_ 0 1099511627776 && (inR m.size 0 65536 && inR m.mod 0 A.st))))))))
def keysB : List (List UInt8) → List Sn → Bool
  | _, [] => true
  | ks, s :: r => decide (s.key.length ≤ 1000) && (inR s.at_ 0 1099511627776 && (!decide (s.key ∈ ks) && keysB (ks ++ [s.key]) r))
def lastB (A : Acc) : Bool := match A.boxes.getLast? with | none => true | some b => decide (b.id < A.nb)
def srcB (s : Sc) : Bool := scB s.name && decide (s.text.length ≤ 32768)
def headB (A : Acc) : Bool := inR A.nm 1 1099511627776 && (inR A.nb 1 1099511627776 && (inR A.st 0 1099511627776 && (rightL A.boxes && (decide (A.mails.length ≤ 4096) && (decide (A.scripts.length ≤ 16) && decide (A.seen.length ≤ 256))))))
def idB (x y : Ml) : Bool := decide (x.id < y.id)
def nameB (x y : Sc) : Bool := ltT x.name y.name
def rightA (A : Acc) : Bool := headB A && (lastB A && (risesB idB A.mails && (risesB nameB A.scripts && (A.mails.all (fitM A) && (A.scripts.all srcB && (keysB [] A.seen && (decide (A.active = []) || hasS A.scripts A.active)))))))
end Go.Cs

-- alias Tryz
namespace Go.Proofs.YtohhkegmbgancaaGreatDoor
open Go.Shelf Go.RowKit Go.Pw Go.Vc Go.Cs Go.Lib
set_option linter.unusedVariables false
set_option maxRecDepth 100000
theorem bytesLess_eq : ∀ (x y : List UInt8), Op.bytesLess x y = decide (x < y)
  | [], [] => by simp [Op.bytesLess]
  | [], b :: bs => by simp [Op.bytesLess]
  | a :: x, [] => by simp [Op.bytesLess]
  | a :: x, b :: y => by
    rw [Op.bytesLess, bytesLess_eq x y]
    simp only [List.cons_lt_cons_iff]
    by_cases h1 : a < b <;> by_cases h2 : a = b <;> by_cases h3 : x < y <;> simp [h1, h2, h3]
theorem lt_str (x y : List UInt8) : Op.bytesLess (str x).toList (str y).toList = ltT x y := by
  rw [bytesLess_eq]
  have e : ∀ z : List UInt8, (str z).toList = z := fun z => by rw [← L_str z]; exact ByteArray.toList_eq _
  rw [e, e]; rfl
set_option maxHeartbeats 2000000 in
theorem rs_I {w : World} {v : Value} (l : List Int) (g : Nat) (p : Int → Int → Bool) (hv : RowO w v inC l) (hl : l.length ≤ 1000000) (hg : ∀ (args : Array Value) (w : World), (callFunc g args).run Tryz.prog w = .ok (.enter g args) w)
    (hp : ∀ x y, ∀ w', Calls Tryz.prog g #[.int .i64 x, .int .i64 y] w' fun e w'' => e = .returned (.bool (p x y)) ∧ Keeps w' w'' none_) :
    Calls Tryz.prog 119 #[v, .func (.func g) #[] #[]] w fun e w' => e = .returned (.bool (risesB p l)) ∧ Keeps w w' none_ := by
  obtain ⟨a, cap, rfl, hr⟩ := hv
  refine calls_of_vc (args := [.slice a l.length cap, .func (.func g) #[] #[]]) Tryz.func119 rfl (Nat.le_of_ble_eq_true rfl) ?_; refine Sat.go hmix ?_; conv => whnf
  refine Loop.intro (ι := Nat) (fun i => [(0, .slice a l.length cap), (1, .func (.func g) #[] #[]), (5, .int .i64 ((i + 1 : Nat) : Int))])
    (fun i wr => Keeps w wr none_ ∧ (i = 0 ∨ i < l.length) ∧ ∀ j (h : j + 1 < l.length), j < i → p (l[j]'(by omega)) l[j + 1] = true) (fun i => l.length - i) 0 ⟨rfl, rfl, rfl, trivial⟩ ⟨Keeps.refl _ _, .inl rfl, fun _ _ h => by omega⟩ ?_
  rintro i gg wr ⟨hK, hi, he⟩
  (first | refine Then.go hmix ?_ | refine Sat.go hmix ?_ | refine ResK.go ?_ | skip); conv => whnf
  by_cases hlt : i + 1 < l.length
  · obtain ⟨gb, o, rfl, hgb, hat⟩ := hr (by omega)
    have hlt1 : i < l.length := by omega
    have hpc := hp l[i] l[i + 1] wr.drew
    obtain ⟨q, hq⟩ : ∃ q, p l[i] l[i + 1] = q := ⟨_, rfl⟩
    rw [hq] at hpc
    have hc := at_int hat hlt
    have hc1 := at_int hat hlt1
    refine KGO ?_
    rw [show (((i + 1 : Nat) : Int) - 1).toNat = i by omega]
    refine KGO ?_
    refine CallS.of (hg _ _) hpc ?_
    rintro e w1 ⟨rfl, k1⟩
    have K1 := hK.trans0 ((Keeps.refl wr none_).drew.trans0 k1)
    refine ⟨_, rfl, ?_⟩; (first | refine Then.go hmix ?_ | refine Sat.go hmix ?_ | refine ResK.go ?_ | skip); conv => whnf
    cases q with
    | true =>
      refine KGO ?_
      exact ⟨i + 1, ⟨rfl, rfl, v_int (by omega), trivial⟩, ⟨K1, .inr hlt, fun j h hj => by
        rcases Nat.lt_or_ge j i with h' | h'
        · exact he j h h'
        · obtain rfl : j = i := by omega
          exact hq⟩, by dsimp only; omega⟩
    | false =>
      refine KGO ?_
      refine ⟨ret_bool ?_, K1⟩
      cases hb : risesB p l with
      | false => rfl
      | true => rw [(risesB_iff p l).1 hb i hlt] at hq; cases hq
  · refine KGO ?_
    exact ⟨by rw [(risesB_iff p l).2 fun j h => he j h (by omega)], hK⟩
set_option maxHeartbeats 2000000 in
theorem rs_T {w : World} {v : Value} (l : List (List UInt8)) (g : Nat) (p : (List UInt8) → (List UInt8) → Bool) (hv : RowO w v txC l) (hl : l.length ≤ 1000000) (hg : ∀ (args : Array Value) (w : World), (callFunc g args).run Tryz.prog w = .ok (.enter g args) w)
    (hp : ∀ x y, ∀ w', Calls Tryz.prog g #[.string (str x), .string (str y)] w' fun e w'' => e = .returned (.bool (p x y)) ∧ Keeps w' w'' none_) :
    Calls Tryz.prog 121 #[v, .func (.func g) #[] #[]] w fun e w' => e = .returned (.bool (risesB p l)) ∧ Keeps w w' none_ := by
  obtain ⟨a, cap, rfl, hr⟩ := hv
  refine calls_of_vc (args := [.slice a l.length cap, .func (.func g) #[] #[]]) Tryz.func121 rfl (Nat.le_of_ble_eq_true rfl) ?_; refine Sat.go hmix ?_; conv => whnf
  refine Loop.intro (ι := Nat) (fun i => [(0, .slice a l.length cap), (1, .func (.func g) #[] #[]), (5, .int .i64 ((i + 1 : Nat) : Int))])
    (fun i wr => Keeps w wr none_ ∧ (i = 0 ∨ i < l.length) ∧ ∀ j (h : j + 1 < l.length), j < i → p (l[j]'(by omega)) l[j + 1] = true) (fun i => l.length - i) 0 ⟨rfl, rfl, rfl, trivial⟩ ⟨Keeps.refl _ _, .inl rfl, fun _ _ h => by omega⟩ ?_
  rintro i gg wr ⟨hK, hi, he⟩
  (first | refine Then.go hmix ?_ | refine Sat.go hmix ?_ | refine ResK.go ?_ | skip); conv => whnf
  by_cases hlt : i + 1 < l.length
  · obtain ⟨gb, o, rfl, hgb, hat⟩ := hr (by omega)
    have hlt1 : i < l.length := by omega
    have hpc := hp l[i] l[i + 1] wr.drew
    obtain ⟨q, hq⟩ : ∃ q, p l[i] l[i + 1] = q := ⟨_, rfl⟩
    rw [hq] at hpc
    have hc := at_txt hat hlt
    have hc1 := at_txt hat hlt1
    refine KGO ?_
    rw [show (((i + 1 : Nat) : Int) - 1).toNat = i by omega]
    refine KGO ?_
    refine CallS.of (hg _ _) hpc ?_
    rintro e w1 ⟨rfl, k1⟩
    have K1 := hK.trans0 ((Keeps.refl wr none_).drew.trans0 k1)
    refine ⟨_, rfl, ?_⟩; (first | refine Then.go hmix ?_ | refine Sat.go hmix ?_ | refine ResK.go ?_ | skip); conv => whnf
    cases q with
    | true =>
      refine KGO ?_
      exact ⟨i + 1, ⟨rfl, rfl, v_int (by omega), trivial⟩, ⟨K1, .inr hlt, fun j h hj => by
        rcases Nat.lt_or_ge j i with h' | h'
        · exact he j h h'
        · obtain rfl : j = i := by omega
          exact hq⟩, by dsimp only; omega⟩
    | false =>
      refine KGO ?_
      refine ⟨ret_bool ?_, K1⟩
      cases hb : risesB p l with
      | false => rfl
      | true => rw [(risesB_iff p l).1 hb i hlt] at hq; cases hq
  · refine KGO ?_
    exact ⟨by rw [(risesB_iff p l).2 fun j h => he j h (by omega)], hK⟩
set_option maxHeartbeats 2000000 in
theorem rs_Ml {w : World} {v : Value} (l : List Mr) (g : Nat) (p : Mr → Mr → Bool) (hv : RowO w v mrC l) (hl : l.length ≤ 1000000) (hg : ∀ (args : Array Value) (w : World), (callFunc g args).run Tryz.prog w = .ok (.enter g args) w)
    (hp : ∀ x y, ∀ w', Calls Tryz.prog g #[.agg (mrC x).toArray, .agg (mrC y).toArray] w' fun e w'' => e = .returned (.bool (p x y)) ∧ Keeps w' w'' none_) :
    Calls Tryz.prog 54 #[v, .func (.func g) #[] #[]] w fun e w' => e = .returned (.bool (risesB p l)) ∧ Keeps w w' none_ := by
  obtain ⟨a, cap, rfl, hr⟩ := hv
  refine calls_of_vc (args := [.slice a l.length cap, .func (.func g) #[] #[]]) Tryz.func54 rfl (Nat.le_of_ble_eq_true rfl) ?_; refine Sat.go hmix ?_; conv => whnf
  refine Loop.intro (ι := Nat) (fun i => [(0, .slice a l.length cap), (1, .func (.func g) #[] #[]), (5, .int .i64 ((i + 1 : Nat) : Int))])
    (fun i wr => Keeps w wr none_ ∧ (i = 0 ∨ i < l.length) ∧ ∀ j (h : j + 1 < l.length), j < i → p (l[j]'(by omega)) l[j + 1] = true) (fun i => l.length - i) 0 ⟨rfl, rfl, rfl, trivial⟩ ⟨Keeps.refl _ _, .inl rfl, fun _ _ h => by omega⟩ ?_
  rintro i gg wr ⟨hK, hi, he⟩
  (first | refine Then.go hmix ?_ | refine Sat.go hmix ?_ | refine ResK.go ?_ | skip); conv => whnf
  by_cases hlt : i + 1 < l.length
  · obtain ⟨gb, o, rfl, hgb, hat⟩ := hr (by omega)
    have hlt1 : i < l.length := by omega
    have hpc := hp l[i] l[i + 1] wr.drew
    obtain ⟨q, hq⟩ : ∃ q, p l[i] l[i + 1] = q := ⟨_, rfl⟩
    rw [hq] at hpc
    refine KGO ?_
    simp only [show (((i + 1 : Nat) : Int) - 1).toNat = i from by omega]
    refine CallS.of (hg _ _) hpc ?_
    rintro e w1 ⟨rfl, k1⟩
    have K1 := hK.trans0 ((Keeps.refl wr none_).drew.trans0 k1)
    refine ⟨_, rfl, ?_⟩; (first | refine Then.go hmix ?_ | refine Sat.go hmix ?_ | refine ResK.go ?_ | skip); conv => whnf
    cases q with
    | true =>
      refine KGO ?_
      exact ⟨i + 1, ⟨rfl, rfl, v_int (by omega), trivial⟩, ⟨K1, .inr hlt, fun j h hj => by
        rcases Nat.lt_or_ge j i with h' | h'
        · exact he j h h'
        · obtain rfl : j = i := by omega
          exact hq⟩, by dsimp only; omega⟩
    | false =>
      refine KGO ?_
      refine ⟨ret_bool ?_, K1⟩
      cases hb : risesB p l with
      | false => rfl
      | true => rw [(risesB_iff p l).1 hb i hlt] at hq; cases hq
  · refine KGO ?_
    exact ⟨by rw [(risesB_iff p l).2 fun j h => he j h (by omega)], hK⟩
set_option maxHeartbeats 2000000 in
theorem rs_Src {w : World} {v : Value} (l : List Sc) (g : Nat) (p : Sc → Sc → Bool) (hv : RowO w v srcC l) (hl : l.length ≤ 1000000) (hg : ∀ (args : Array Value) (w : World), (callFunc g args).run Tryz.prog w = .ok (.enter g args) w)
    (hp : ∀ x y, ∀ w', Calls Tryz.prog g #[.agg (srcC x).toArray, .agg (srcC y).toArray] w' fun e w'' => e = .returned (.bool (p x y)) ∧ Keeps w' w'' none_) :
    Calls Tryz.prog 56 #[v, .func (.func g) #[] #[]] w fun e w' => e = .returned (.bool (risesB p l)) ∧ Keeps w w' none_ := by
  obtain ⟨a, cap, rfl, hr⟩ := hv
  refine calls_of_vc (args := [.slice a l.length cap, .func (.func g) #[] #[]]) Tryz.func56 rfl (Nat.le_of_ble_eq_true rfl) ?_; refine Sat.go hmix ?_; conv => whnf
  refine Loop.intro (ι := Nat) (fun i => [(0, .slice a l.length cap), (1, .func (.func g) #[] #[]), (5, .int .i64 ((i + 1 : Nat) : Int))])
    (fun i wr => Keeps w wr none_ ∧ (i = 0 ∨ i < l.length) ∧ ∀ j (h : j + 1 < l.length), j < i → p (l[j]'(by omega)) l[j + 1] = true) (fun i => l.length - i) 0 ⟨rfl, rfl, rfl, trivial⟩ ⟨Keeps.refl _ _, .inl rfl, fun _ _ h => by omega⟩ ?_
  rintro i gg wr ⟨hK, hi, he⟩
  (first | refine Then.go hmix ?_ | refine Sat.go hmix ?_ | refine ResK.go ?_ | skip); conv => whnf
  by_cases hlt : i + 1 < l.length
  · obtain ⟨gb, o, rfl, hgb, hat⟩ := hr (by omega)
    have hlt1 : i < l.length := by omega
    have hpc := hp l[i] l[i + 1] wr.drew
    obtain ⟨q, hq⟩ : ∃ q, p l[i] l[i + 1] = q := ⟨_, rfl⟩
    rw [hq] at hpc
    refine KGO ?_
    simp only [show (((i + 1 : Nat) : Int) - 1).toNat = i from by omega]
    refine CallS.of (hg _ _) hpc ?_
    rintro e w1 ⟨rfl, k1⟩
    have K1 := hK.trans0 ((Keeps.refl wr none_).drew.trans0 k1)
    refine ⟨_, rfl, ?_⟩; (first | refine Then.go hmix ?_ | refine Sat.go hmix ?_ | refine ResK.go ?_ | skip); conv => whnf
    cases q with
    | true =>
      refine KGO ?_
      exact ⟨i + 1, ⟨rfl, rfl, v_int (by omega), trivial⟩, ⟨K1, .inr hlt, fun j h hj => by
        rcases Nat.lt_or_ge j i with h' | h'
        · exact he j h h'
        · obtain rfl : j = i := by omega
          exact hq⟩, by dsimp only; omega⟩
    | false =>
      refine KGO ?_
      refine ⟨ret_bool ?_, K1⟩
      cases hb : risesB p l with
      | false => rfl
      | true => rw [(risesB_iff p l).1 hb i hlt] at hq; cases hq
  · refine KGO ?_
    exact ⟨by rw [(risesB_iff p l).2 fun j h => he j h (by omega)], hK⟩
section
variable {w : World}
theorem ac_belowI (x y : Int) : Calls Tryz.prog 120 #[.int .i64 x, .int .i64 y] w fun e w' => e = .returned (.bool (ltI x y)) ∧ Keeps w w' none_ := by
  refine calls_of_vc (args := [.int .i64 x, .int .i64 y]) Tryz.func120 rfl (Nat.le_of_ble_eq_true rfl) ?_; refine Sat.go hmix ?_; conv => whnf
  refine KGO ?_
  exact ⟨rfl, Keeps.refl _ _⟩
theorem ac_belowT (x y : List UInt8) : Calls Tryz.prog 122 #[.string (str x), .string (str y)] w fun e w' => e = .returned (.bool (ltT x y)) ∧ Keeps w w' none_ := by
  refine calls_of_vc (args := [.string (str x), .string (str y)]) Tryz.func122 rfl (Nat.le_of_ble_eq_true rfl) ?_; refine Sat.go hmix ?_; conv => whnf
  refine KGO ?_
  exact ⟨by rw [lt_str], Keeps.refl _ _⟩
theorem ac_Right1 (x y : Mr) : Calls Tryz.prog 55 #[.agg (mrC x).toArray, .agg (mrC y).toArray] w fun e w' => e = .returned (.bool (idB x.m y.m)) ∧ Keeps w w' none_ := by
  refine calls_of_vc (args := [.agg (mrC x).toArray, .agg (mrC y).toArray]) Tryz.func55 rfl (Nat.le_of_ble_eq_true rfl) ?_; refine Sat.go hmix ?_; conv => whnf
  have a_b1 := at_fresh w 42 (mrC x)
  have v_b1 := VarK.new w 42 (mrC x)
  have k_w1 : Keeps w (w.alloc (.cells (List.toArray (mrC x)) 42)) none_ := (Keeps.refl _ _).alloc _
  have z_w1 : (w.alloc (.cells (List.toArray (mrC x)) 42)).heap.size = w.heap.size + 1 := by simp
  generalize w.alloc (.cells (List.toArray (mrC x)) 42) = w1 at *
  generalize hs_b1 : w.heap.size = b1 at *
  have r_w1 : Keeps w1 w1 none_ := Keeps.refl _ _
  have a_b2 := at_fresh w1 42 (mrC y)
  have v_b2 := VarK.new w1 42 (mrC y)
  have k_w2 : Keeps w1 (w1.alloc (.cells (List.toArray (mrC y)) 42)) none_ := (Keeps.refl _ _).alloc _
  have z_w2 : (w1.alloc (.cells (List.toArray (mrC y)) 42)).heap.size = w1.heap.size + 1 := by simp
  generalize w1.alloc (.cells (List.toArray (mrC y)) 42) = w2 at *
  generalize hs_b2 : w1.heap.size = b2 at *
  have r_w2 : Keeps w2 w2 none_ := Keeps.refl _ _
  have a1 := at_mono a_b1 k_w2
  refine KGO ?_
  exact ⟨rfl, k_w1.trans0 k_w2⟩
theorem ac_Right2 (x y : Sc) : Calls Tryz.prog 57 #[.agg (srcC x).toArray, .agg (srcC y).toArray] w fun e w' => e = .returned (.bool (nameB x y)) ∧ Keeps w w' none_ := by
  refine calls_of_vc (args := [.agg (srcC x).toArray, .agg (srcC y).toArray]) Tryz.func57 rfl (Nat.le_of_ble_eq_true rfl) ?_; refine Sat.go hmix ?_; conv => whnf
  have a_b1 := at_fresh w 76 (srcC x)
  have v_b1 := VarK.new w 76 (srcC x)
  have k_w1 : Keeps w (w.alloc (.cells (List.toArray (srcC x)) 76)) none_ := (Keeps.refl _ _).alloc _
  have z_w1 : (w.alloc (.cells (List.toArray (srcC x)) 76)).heap.size = w.heap.size + 1 := by simp
  generalize w.alloc (.cells (List.toArray (srcC x)) 76) = w1 at *
  generalize hs_b1 : w.heap.size = b1 at *
  have r_w1 : Keeps w1 w1 none_ := Keeps.refl _ _
  have a_b2 := at_fresh w1 76 (srcC y)
  have v_b2 := VarK.new w1 76 (srcC y)
  have k_w2 : Keeps w1 (w1.alloc (.cells (List.toArray (srcC y)) 76)) none_ := (Keeps.refl _ _).alloc _
  have z_w2 : (w1.alloc (.cells (List.toArray (srcC y)) 76)).heap.size = w1.heap.size + 1 := by simp
  generalize w1.alloc (.cells (List.toArray (srcC y)) 76) = w2 at *
  generalize hs_b2 : w1.heap.size = b2 at *
  have r_w2 : Keeps w2 w2 none_ := Keeps.refl _ _
  have a1 := at_mono a_b1 k_w2
  refine KGO ?_
  exact ⟨by rw [lt_str]; rfl, k_w1.trans0 k_w2⟩
end
end Go.Proofs.YtohhkegmbgancaaGreatDoor

-- alias Tryz
namespace Go.Proofs.YtohhkegmbgancaaGreatDoor
open Go.Shelf Go.RowKit Go.Pw Go.Vc Go.Cs Go.Lib
set_option linter.unusedVariables false
set_option maxRecDepth 100000
section
variable {w : World}
theorem ac_in (n lo hi : Int) : Calls Tryz.prog 38 #[.int .i64 n, .int .i64 lo, .int .i64 hi] w fun e w' => e = .returned (.bool (inR n lo hi)) ∧ w = w' := ac_within n lo hi
set_option maxHeartbeats 8000000 in
theorem ac_fits {h : Hd} {A : Acc} (x : Mr) (hb : RowB w h.B.v A.boxes) (hbl : A.boxes.length ≤ 1000000) (hx : MailOk w x) (hxb : x.m.boxes.length ≤ 1000000) (hxf : x.m.flags.length ≤ 1000000) (hxl : ∀ f ∈ x.m.flags, f.length ≤ 1000000) (hnm : 0 ≤ A.nm ∧ A.nm ≤ 4611686018427387904) :
    Calls Tryz.prog 60 #[.agg (accC h A).toArray, .agg (mrC x).toArray] w fun e w' => e = .returned (.bool (fitM A x.m)) ∧ Keeps w w' none_ := by
  have hbn : x.b.n = x.m.boxes.length := RowO.len hx.b
  have hfn : x.f.n = x.m.flags.length := RowO.len hx.f
  have hxB : RowI w (.slice x.b.a x.m.boxes.length x.b.c) x.m.boxes := by rw [← hbn]; exact hx.b
  have hxF : RowT w (.slice x.f.a x.m.flags.length x.f.c) x.m.flags := by rw [← hfn]; exact hx.f
  refine calls_of_vc (args := [.agg (accC h A).toArray, .agg (mrC x).toArray]) Tryz.func60 rfl (Nat.le_of_ble_eq_true rfl) ?_; refine Sat.go hmix ?_; conv => whnf
  have a_b1 := at_fresh w 36 (accC h A)
  have v_b1 := VarK.new w 36 (accC h A)
  have k_w1 : Keeps w (w.alloc (.cells (List.toArray (accC h A)) 36)) none_ := (Keeps.refl _ _).alloc _
  have z_w1 : (w.alloc (.cells (List.toArray (accC h A)) 36)).heap.size = w.heap.size + 1 := by simp
  generalize w.alloc (.cells (List.toArray (accC h A)) 36) = w1 at *
  generalize hs_b1 : w.heap.size = b1 at *
  have r_w1 : Keeps w1 w1 none_ := Keeps.refl _ _
  have a_b2 := at_fresh w1 42 (mrC x)
  have v_b2 := VarK.new w1 42 (mrC x)
  have k_w2 : Keeps w1 (w1.alloc (.cells (List.toArray (mrC x)) 42)) none_ := (Keeps.refl _ _).alloc _
  have z_w2 : (w1.alloc (.cells (List.toArray (mrC x)) 42)).heap.size = w1.heap.size + 1 := by simp
  generalize w1.alloc (.cells (List.toArray (mrC x)) 42) = w2 at *
  generalize hs_b2 : w1.heap.size = b2 at *
  have r_w2 : Keeps w2 w2 none_ := Keeps.refl _ _
  have K2 : Keeps w w2 none_ := k_w1.trans0 k_w2
  have a1 := at_mono a_b1 k_w2
  have kr2 : Keeps w2 w2 none_ := Keeps.refl _ _
  have am := a_b2
  unfold mrC at am
  rw [hbn, hfn] at am
  refine KGO ?_
  refine CallS.of (Tryz.call38 _ _) (ac_in (w := w2) x.m.id 1 (A.nm - 1)) ?_
  rintro e w2' ⟨rfl, rfl⟩
  refine ⟨_, rfl, ?_⟩; (first | refine Then.go hmix ?_ | refine Sat.go hmix ?_ | refine ResK.go ?_ | skip); conv => whnf
  by_cases c1 : inR x.m.id 1 (A.nm - 1) = true
  rotate_left
  · have c1 : inR x.m.id 1 (A.nm - 1) = false := by simpa using c1
    rw [c1]
    refine KGO ?_
    exact ⟨ret_bool (by unfold fitM; rw [c1]; rfl), K2⟩
  rw [c1]
  by_cases c2 : 0 < x.m.boxes.length
  rotate_left
  · refine KGO ?_
    exact ⟨ret_bool (by unfold fitM; rw [decide_eq_false c2]; simp), K2⟩
  refine KGO ?_
  refine CallS.of (Tryz.call119 _ _) (rs_I (w := w2) x.m.boxes 120 ltI (hxB.keep K2) hxb Tryz.call120 (fun x y w' => ac_belowI x y)) ?_
  rintro e w3 ⟨rfl, k3⟩
  have K3 := K2.trans0 k3
  have a13 := at_mono a1 k3
  have am3 := at_mono am k3
  have kr3 : Keeps w3 w3 none_ := Keeps.refl _ _
  refine ⟨_, rfl, ?_⟩; (first | refine Then.go hmix ?_ | refine Sat.go hmix ?_ | refine ResK.go ?_ | skip); conv => whnf
  by_cases c3 : risesB ltI x.m.boxes = true
  rotate_left
  · have c3 : risesB ltI x.m.boxes = false := by simpa using c3
    rw [c3]
    refine KGO ?_
    exact ⟨ret_bool (by unfold fitM; rw [c3]; simp), K3⟩
  rw [c3]
  refine KGO ?_
  refine CallS.of (Tryz.call74 _ _) (ac_there (w := w3) (h := h) (A := A) x.m.boxes (hb.keep K3) hbl (hxB.keep K3) (by omega)) ?_
  rintro e w4 ⟨rfl, k4⟩
  have K4 := K3.trans0 k4
  have a14 := at_mono a13 k4
  have am4 := at_mono am3 k4
  have kr4 : Keeps w4 w4 none_ := Keeps.refl _ _
  refine ⟨_, rfl, ?_⟩; (first | refine Then.go hmix ?_ | refine Sat.go hmix ?_ | refine ResK.go ?_ | skip); conv => whnf
  by_cases c4 : thereB A.boxes x.m.boxes = true
  rotate_left
  · have c4 : thereB A.boxes x.m.boxes = false := by simpa using c4
    rw [c4]
    refine KGO ?_
    exact ⟨ret_bool (by unfold fitM; rw [c4]; simp), K4⟩
  rw [c4]
  by_cases c5 : x.m.flags.length ≤ 20
  rotate_left
  · refine KGO ?_
    exact ⟨ret_bool (by unfold fitM; rw [decide_eq_false c5]; simp), K4⟩
  refine KGO ?_
  refine CallS.of (Tryz.call121 _ _) (rs_T (w := w4) x.m.flags 122 ltT (hxF.keep K4) hxf Tryz.call122 (fun x y w' => ac_belowT x y)) ?_
  rintro e w5 ⟨rfl, k5⟩
  have K5 := K4.trans0 k5
  have a15 := at_mono a14 k5
  have am5 := at_mono am4 k5
  have kr5 : Keeps w5 w5 none_ := Keeps.refl _ _
  refine ⟨_, rfl, ?_⟩; (first | refine Then.go hmix ?_ | refine Sat.go hmix ?_ | refine ResK.go ?_ | skip); conv => whnf
  by_cases c6 : risesB ltT x.m.flags = true
  rotate_left
  · have c6 : risesB ltT x.m.flags = false := by simpa using c6
    rw [c6]
    refine KGO ?_
    exact ⟨ret_bool (by unfold fitM; rw [c6]; simp), K5⟩
  rw [c6]
  refine KGO ?_
  refine CallS.of (Tryz.call73 _ _) (ac_flags (w := w5) x.m.flags (hxF.keep K5) (by omega) (fun f hf => by have := hxl f hf; omega)) ?_
  rintro e w6 ⟨rfl, k6⟩
  have K6 := K5.trans0 k6
  have a16 := at_mono a15 k6
  have am6 := at_mono am5 k6
  have kr6 : Keeps w6 w6 none_ := Keeps.refl _ _
  refine ⟨_, rfl, ?_⟩; (first | refine Then.go hmix ?_ | refine Sat.go hmix ?_ | refine ResK.go ?_ | skip); conv => whnf
  by_cases c7 : flagsB x.m.flags = true
  rotate_left
  · have c7 : flagsB x.m.flags = false := by simpa using c7
    rw [c7]
    refine KGO ?_
    exact ⟨ret_bool (by unfold fitM; rw [c7]; simp), K6⟩
  rw [c7]
  refine KGO ?_
  refine CallS.of (Tryz.call38 _ _) (ac_in (w := w6) x.m.at_ 0 1099511627776) ?_
  rintro e w6' ⟨rfl, rfl⟩
  refine ⟨_, rfl, ?_⟩; (first | refine Then.go hmix ?_ | refine Sat.go hmix ?_ | refine ResK.go ?_ | skip); conv => whnf
  by_cases c8 : inR x.m.at_ 0 1099511627776 = true
  rotate_left
  · have c8 : inR x.m.at_ 0 1099511627776 = false := by simpa using c8
    rw [c8]
    refine KGO ?_
    exact ⟨ret_bool (by unfold fitM; rw [c8]; simp), K6⟩
  rw [c8]
  refine KGO ?_
  refine CallS.of (Tryz.call38 _ _) (ac_in (w := w6) x.m.size 0 65536) ?_
  rintro e w6' ⟨rfl, rfl⟩
  refine ⟨_, rfl, ?_⟩; (first | refine Then.go hmix ?_ | refine Sat.go hmix ?_ | refine ResK.go ?_ | skip); conv => whnf
  by_cases c9 : inR x.m.size 0 65536 = true
  rotate_left
  · have c9 : inR x.m.size 0 65536 = false := by simpa using c9
    rw [c9]
    refine KGO ?_
    exact ⟨ret_bool (by unfold fitM; rw [c9]; simp), K6⟩
  rw [c9]
  refine KGO ?_
  refine CallS.of (Tryz.call38 _ _) (ac_in (w := w6) x.m.mod 0 A.st) ?_
  rintro e w6' ⟨rfl, rfl⟩
  refine ⟨_, rfl, ?_⟩; (first | refine Then.go hmix ?_ | refine Sat.go hmix ?_ | refine ResK.go ?_ | skip); conv => whnf
  refine KGO ?_
  exact ⟨ret_bool (by unfold fitM; rw [c1, decide_eq_true c2, c3, c4, decide_eq_true c5, c6, c7, c8, c9]; rfl), K6⟩
theorem ac_Right3 {h : Hd} {A : Acc} {b : Nat} (x : Mr) (ha : At w b 0 (accC h A)) (hb : RowB w h.B.v A.boxes) (hbl : A.boxes.length ≤ 1000000) (hx : MailOk w x) (hxb : x.m.boxes.length ≤ 1000000) (hxf : x.m.flags.length ≤ 1000000) (hxl : ∀ f ∈ x.m.flags, f.length ≤ 1000000) (hnm : 0 ≤ A.nm ∧ A.nm ≤ 4611686018427387904) :
    Calls Tryz.prog 59 #[.agg (mrC x).toArray, .pointer (some ⟨b, 0, none⟩)] w fun e w' => e = .returned (.bool (!fitM A x.m)) ∧ Keeps w w' none_ := by
  refine calls_of_vc (args := [.agg (mrC x).toArray, .pointer (some ⟨b, 0, none⟩)]) Tryz.func59 rfl (Nat.le_of_ble_eq_true rfl) ?_; refine Sat.go hmix ?_; conv => whnf
  have a_b1 := at_fresh w 42 (mrC x)
  have v_b1 := VarK.new w 42 (mrC x)
  have k_w1 : Keeps w (w.alloc (.cells (List.toArray (mrC x)) 42)) none_ := (Keeps.refl _ _).alloc _
  have z_w1 : (w.alloc (.cells (List.toArray (mrC x)) 42)).heap.size = w.heap.size + 1 := by simp
  generalize w.alloc (.cells (List.toArray (mrC x)) 42) = w1 at *
  generalize hs_b1 : w.heap.size = b1 at *
  have r_w1 : Keeps w1 w1 none_ := Keeps.refl _ _
  have a1 := at_mono ha k_w1
  refine KGO ?_
  refine CallS.of (Tryz.call60 _ _) (ac_fits (w := w1) (h := h) (A := A) x (hb.keep k_w1) hbl (hx.keep k_w1) hxb hxf hxl hnm) ?_
  rintro e w2 ⟨rfl, k2⟩
  refine ⟨_, rfl, ?_⟩; (first | refine Then.go hmix ?_ | refine Sat.go hmix ?_ | refine ResK.go ?_ | skip); conv => whnf
  refine KGO ?_
  exact ⟨rfl, k_w1.trans0 k2⟩
end
end Go.Proofs.YtohhkegmbgancaaGreatDoor
