/- Helper text of this claim: lemmas and contracts that the proved statement rests on; no conditions of its own. -/
import Derived.Test.YtcplagfblmemhaaGreatDoorGAx0
namespace Go.Cs
set_option linter.unusedVariables false
open Go.Lib
set_option linter.unusedVariables false
def inB : List UInt8 := [105, 110, 98, 111, 120]
def updA : List Ml → Int → (Ml → Ml) → List Ml
 | [], _, _ => []
 | m :: r, id, f => if m.id = id then f m :: r else m :: updA r id f
def delA : List Ml → Int → List Ml
 | [], _ => []
 | m :: r, id => if m.id = id then r else m :: delA r id
def findA (l : List Ml) (id : Int) : Option Ml := l.find? fun m => decide (m.id = id)
def ofA (A : Acc) (o : Opr) : Except Nat Ml := match findA A.mails o.id with
 | none => .error 5
 | some m => if 0 ≤ o.if_ ∧ o.if_ ≠ m.mod then .error 17 else .ok m
def newFlags (m : Ml) (o : Opr) : List (List UInt8) := (sortT (m.flags ++ o.add)).filter fun f => !decide (f ∈ o.drop)
def mailA (A : Acc) (o : Opr) : Except Nat (Acc × Int) :=
 if o.boxes = [] ∨ flagsB o.add = false ∨ ¬ (0 ≤ o.at_ ∧ o.at_ ≤ 1099511627776) ∨ ¬ (0 ≤ o.size ∧ o.size ≤ 65536) then .error 1
 else if thereB A.boxes o.boxes = false then .error 5
 else if 4096 ≤ A.mails.length ∨ 20 < (sortT o.add).length ∨ 1099511627776 ≤ A.nm then .error 3
 else .ok ({ A with mails := A.mails ++ [⟨A.nm, o.blob, sortI o.boxes, sortT o.add, o.at_, o.size, A.st⟩], nm := A.nm + 1 }, A.nm)
def flagA (A : Acc) (o : Opr) : Except Nat (Acc × Int) := match ofA A o with
 | .error c => .error c
 | .ok m => if flagsB o.add = false ∨ flagsB o.drop = false then .error 1
  else if 20 < (newFlags m o).length then .error 3
  else .ok ({ A with mails := updA A.mails o.id fun m => { m with flags := newFlags m o, mod := A.st } }, 0)
def moveA (A : Acc) (o : Opr) : Except Nat (Acc × Int) := match ofA A o with
 | .error c => .error c
 | .ok m => if o.boxes = [] then .error 1
  else if thereB A.boxes o.boxes = false then .error 5
  else .ok ({ A with mails := updA A.mails o.id fun m => { m with boxes := sortI o.boxes, mod := A.st } }, 0)
def destroyA (A : Acc) (o : Opr) : Except Nat (Acc × Int) := match ofA A o with
 | .error c => .error c
 | .ok m => .ok ({ A with mails := delA A.mails o.id }, 0)
def addA (A : Acc) (o : Opr) : Except Nat (Acc × Int) :=
 if 1099511627776 ≤ A.nb then .error 3
 else if (addL A.boxes o.up o.name o.role A.nb).2 ≠ 0 then .error (addL A.boxes o.up o.name o.role A.nb).2
 else .ok ({ A with boxes := (addL A.boxes o.up o.name o.role A.nb).1, nb := A.nb + 1 }, A.nb)
def boxesA (A : Acc) (r : List Bx × Nat) : Except Nat (Acc × Int) := if r.2 ≠ 0 then .error r.2 else .ok ({ A with boxes := r.1 }, 0)
def nameA (A : Acc) (o : Opr) : Except Nat (Acc × Int) := boxesA A (nameL A.boxes o.box o.name)
def hangA (A : Acc) (o : Opr) : Except Nat (Acc × Int) := boxesA A (moveL A.boxes o.box o.up)
def outOf (st box : Int) (m : Ml) : Ml := if box ∈ m.boxes then { m with boxes := m.boxes.erase box, mod := st } else m
def dropA (A : Acc) (o : Opr) : Except Nat (Acc × Int) :=
 if (dropL A.boxes o.box).2 ≠ 0 then .error (dropL A.boxes o.box).2
 else if (A.boxes.any fun b => decide (b.id = o.box ∧ b.role = inB)) = true then .error 20
 else if (A.mails.any fun m => decide (m.boxes = [o.box])) = true then .error 20
 else .ok ({ A with boxes := (dropL A.boxes o.box).1, mails := A.mails.map (outOf A.st o.box) }, 0)
def hasS (l : List Sc) (nm : List UInt8) : Bool := l.any fun s => decide (s.name = nm)
def idxS (l : List Sc) (nm : List UInt8) : Nat := (l.takeWhile fun s => ltT s.name nm).length
def AscS (l : List Sc) : Prop := l.Pairwise fun a b => ltT a.name b.name = true
def setA (A : Acc) (o : Opr) : Except Nat (Acc × Int) :=
 if scB o.name = false then .error 1
 else if 32768 < o.text.length then .error 16
 else if hasS A.scripts o.name = true then .ok ({ A with scripts := A.scripts.set (idxS A.scripts o.name) ⟨o.name, o.text⟩ }, 0)
 else if 16 ≤ A.scripts.length then .error 3
 else .ok ({ A with scripts := A.scripts.take (idxS A.scripts o.name) ++ ⟨o.name, o.text⟩ :: A.scripts.drop (idxS A.scripts o.name) }, 0)
def unsetA (A : Acc) (o : Opr) : Except Nat (Acc × Int) :=
 if hasS A.scripts o.name = false then .error 5
 else if A.active = o.name then .error 20
 else .ok ({ A with scripts := A.scripts.take (idxS A.scripts o.name) ++ A.scripts.drop (idxS A.scripts o.name + 1) }, 0)
def chooseA (A : Acc) (o : Opr) : Except Nat (Acc × Int) :=
 if hasS A.scripts o.name = false ∧ o.name ≠ [] then .error 5 else .ok ({ A with active := o.name }, 0)
def seenA (l : List Sn) (o : Opr) : List Sn := (l.filter fun s => !decide (s.key = o.name)) ++ [⟨o.name, o.at_⟩]
def answerA (A : Acc) (o : Opr) : Except Nat (Acc × Int) :=
 if 1000 < o.name.length ∨ ¬ (0 ≤ o.at_ ∧ o.at_ ≤ 1099511627776) then .error 1
 else .ok ({ A with seen := (seenA A.seen o).drop ((seenA A.seen o).length - 256) }, 0)
def oneA (A : Acc) (o : Opr) : Except Nat (Acc × Int) :=
 if o.kind = 1 then mailA A o else if o.kind = 2 then flagA A o else if o.kind = 3 then moveA A o else if o.kind = 4 then destroyA A o
 else if o.kind = 5 then addA A o else if o.kind = 6 then nameA A o else if o.kind = 7 then hangA A o else if o.kind = 8 then dropA A o
 else if o.kind = 9 then setA A o else if o.kind = 10 then unsetA A o else if o.kind = 11 then chooseA A o else if o.kind = 12 then answerA A o else .error 1
def nextA (A : Acc) : Acc := { A with st := A.st + 1 }
def applyA (A : Acc) (o : Opr) : Acc × Int × Nat := match oneA (nextA A) o with
 | .error c => (A, 0, c)
 | .ok r => if 1099511627776 < r.1.st then (A, 0, 3) else (r.1, r.2, 0)
theorem zlU (f : Ml → Ml) (id : Int) : ∀ (l : List Ml) (i : Nat) (h : i < l.length), l[i].id = id → (∀ j (hj : j < i), (l[j]'(by omega)).id ≠ id) → updA l id f = l.set i (f l[i])
 | [], i, h, _, _ => by simp at h
 | m :: r, 0, h, he, _ => by
  have he : m.id = id := he
  rw [updA, if_pos he]; rfl
 | m :: r, i + 1, h, he, hn => by
  have h0 : m.id ≠ id := hn 0 (by omega)
  rw [updA, if_neg h0, zlU f id r i (by simpa using h) he fun j hj => hn (j + 1) (by omega)]
  rfl
theorem zjW (id : Int) : ∀ (l : List Ml) (i : Nat) (h : i < l.length), l[i].id = id → (∀ j (hj : j < i), (l[j]'(by omega)).id ≠ id) → delA l id = l.take i ++ l.drop (i + 1)
 | [], i, h, _, _ => by simp at h
 | m :: r, 0, h, he, _ => by
  have he : m.id = id := he
  rw [delA, if_pos he]; rfl
 | m :: r, i + 1, h, he, hn => by
  have h0 : m.id ≠ id := hn 0 (by omega)
  rw [delA, if_neg h0, zjW id r i (by simpa using h) he fun j hj => hn (j + 1) (by omega)]
  rfl
abbrev Ne0 (x : Except Nat (Acc × Int)) : Prop := x ≠ .error 0
theorem zaO {c : Prop} [Decidable c] {x y : Except Nat (Acc × Int)} (hx : Ne0 x) (hy : Ne0 y) : Ne0 (if c then x else y) := by
 by_cases h : c
 ·rw [if_pos h]; exact hx
 ·rw [if_neg h]; exact hy
theorem zbp (n : Nat) : Ne0 (.error (n + 1)) := fun h => by injection h with h; omega
theorem ok_n0 (r : Acc × Int) : Ne0 (.ok r) := fun h => by injection h
theorem ofA_e {A : Acc} {o : Opr} {c : Nat} (h : ofA A o = .error c) : c = 5 ∨ c = 17 := by
 unfold ofA at h
 split at h
 ·injection h with h; exact .inl h.symm
 ·split at h
  ·injection h with h; exact .inr h.symm
  ·cases h
theorem of_n0 {A : Acc} {o : Opr} {f : Ml → Except Nat (Acc × Int)} (hf : ∀ m, Ne0 (f m)) : Ne0 (match ofA A o with | .error c => .error c | .ok m => f m) := by
 cases h : ofA A o with
 | error c =>
  intro e
  injection e with e
  have := ofA_e h
  omega
 | ok m => exact hf m
theorem zjp (A : Acc) (r : List Bx × Nat) : Ne0 (boxesA A r) := by
 unfold boxesA
 by_cases h : r.2 ≠ 0
 ·rw [if_pos h]; intro e; injection e with e; exact h e
 ·rw [if_neg h]; exact ok_n0 _
theorem zph (A : Acc) (o : Opr) : Ne0 (mailA A o) := zaO (zbp 0) (zaO (zbp 4) (zaO (zbp 2) (ok_n0 _)))
theorem zpv (A : Acc) (o : Opr) : Ne0 (flagA A o) := of_n0 fun _ => zaO (zbp 0) (zaO (zbp 2) (ok_n0 _))
theorem zpY (A : Acc) (o : Opr) : Ne0 (moveA A o) := of_n0 fun _ => zaO (zbp 0) (zaO (zbp 4) (ok_n0 _))
theorem zkE (A : Acc) (o : Opr) : Ne0 (destroyA A o) := of_n0 fun _ => ok_n0 _
theorem zqs (A : Acc) (o : Opr) : Ne0 (addA A o) := zaO (zbp 2) (by
 by_cases h : (addL A.boxes o.up o.name o.role A.nb).2 ≠ 0
 ·rw [if_pos h]; intro e; injection e with e; exact h e
 ·rw [if_neg h]; exact ok_n0 _)
theorem zqa (A : Acc) (o : Opr) : Ne0 (dropA A o) := by
 unfold dropA
 by_cases h : (dropL A.boxes o.box).2 ≠ 0
 ·rw [if_pos h]; intro e; injection e with e; exact h e
 ·rw [if_neg h]; exact zaO (zbp 19) (zaO (zbp 19) (ok_n0 _))
theorem zqX (A : Acc) (o : Opr) : Ne0 (setA A o) := zaO (zbp 0) (zaO (zbp 15) (zaO (ok_n0 _) (zaO (zbp 2) (ok_n0 _))))
theorem zol (A : Acc) (o : Opr) : Ne0 (unsetA A o) := zaO (zbp 4) (zaO (zbp 19) (ok_n0 _))
theorem zlD (A : Acc) (o : Opr) : Ne0 (chooseA A o) := zaO (zbp 4) (ok_n0 _)
theorem zkY (A : Acc) (o : Opr) : Ne0 (answerA A o) := zaO (zbp 0) (ok_n0 _)
theorem zrc (A : Acc) (o : Opr) : Ne0 (oneA A o) := by
 unfold oneA
 exact zaO (zph A o) (zaO (zpv A o) (zaO (zpY A o) (zaO (zkE A o) (zaO (zqs A o) (zaO (zjp _ _) (zaO (zjp _ _) (zaO (zqa A o) (zaO (zqX A o) (zaO (zol A o) (zaO (zlD A o) (zaO (zkY A o) (zbp 0))))))))))))
theorem zmr {A : Acc} {o : Opr} {c : Nat} (h : oneA A o = .error c) : c ≠ 0 := fun e => zrc A o (by rw [h, e])
def lastB (A : Acc) : Bool := match A.boxes.getLast? with | none => true | some b => decide (b.id < A.nb)
def srcB (s : Sc) : Bool := scB s.name && decide (s.text.length ≤ 32768)
abbrev M40 : Int := 1099511627776
structure FitP (A : Acc) (m : Ml) : Prop where
 id : 1 ≤ m.id ∧ m.id ≤ A.nm - 1
 ne : m.boxes ≠ []
 asc : AscB ltI m.boxes
 there : ∀ b ∈ m.boxes, hasId A.boxes b = true
 fl : m.flags.length ≤ 20
 fasc : AscB ltT m.flags
 fok : ∀ f ∈ m.flags, flagB f = true
 at_ : 0 ≤ m.at_ ∧ m.at_ ≤ M40
 size : 0 ≤ m.size ∧ m.size ≤ 65536
 mod : 0 ≤ m.mod ∧ m.mod ≤ A.st
structure GoodQ (A : Acc) : Prop where
 nm : 1 ≤ A.nm ∧ A.nm ≤ M40
 nb : 1 ≤ A.nb ∧ A.nb ≤ M40
 st : 0 ≤ A.st
 bx : RightP A.boxes
 bid : ∀ b ∈ A.boxes, b.id < A.nb
 ml : A.mails.length ≤ 4096
 asc : A.mails.Pairwise fun x y => x.id < y.id
 fit : ∀ m ∈ A.mails, FitP A m
 sl : A.scripts.length ≤ 16
 sasc : AscS A.scripts
 src : ∀ s ∈ A.scripts, srcB s = true
 nl : A.seen.length ≤ 256
 key : ∀ s ∈ A.seen, s.key.length ≤ 1000 ∧ 0 ≤ s.at_ ∧ s.at_ ≤ M40
 knd : (A.seen.map (·.key)).Nodup
 act : A.active = [] ∨ hasS A.scripts A.active = true
structure GoodP (A : Acc) : Prop extends GoodQ A where
 top : A.st ≤ M40
theorem zhC {bs : List Bx} {ids : List Int} : thereB bs ids = true ↔ ∀ i ∈ ids, hasId bs i = true := by
 unfold thereB hasId
 rw [List.all_eq_true]
section
variable {A : Acc} {o : Opr}
theorem FitP.mono {A A' : Acc} {m : Ml} (h : FitP A m) (h1 : A.nm ≤ A'.nm) (h2 : A.st ≤ A'.st) (h3 : ∀ b, hasId A.boxes b = true → hasId A'.boxes b = true) : FitP A' m :=
 ⟨by have := h.id; omega, h.ne, h.asc, fun b hb => h3 b (h.there b hb), h.fl, h.fasc, h.fok, h.at_, h.size, by have := h.mod; omega⟩
theorem zeY {l : List Ml} {id : Int} {m : Ml} (h : findA l id = some m) : m ∈ l ∧ m.id = id := by
 unfold findA at h
 exact ⟨List.mem_of_find?_eq_some h, by simpa using List.find?_some h⟩
theorem of_ok {m : Ml} (h : ofA A o = .ok m) : m ∈ A.mails ∧ m.id = o.id := by
 unfold ofA at h
 split at h
 ·cases h
 ·rename_i m' hm
  split at h
  ·cases h
  ·injection h with h
   subst h
   exact zeY hm
theorem upd_mem {f : Ml → Ml} {id : Int} : ∀ {l : List Ml} {x : Ml}, x ∈ updA l id f → x ∈ l ∨ ∃ m ∈ l, m.id = id ∧ x = f m
 | [], x, h => by simp [updA] at h
 | m :: r, x, h => by
  rw [updA] at h
  split at h
  ·rename_i e
   rcases List.mem_cons.1 h with rfl | h
   ·exact .inr ⟨m, by simp, e, rfl⟩
   ·exact .inl (by simp [h])
  ·rcases List.mem_cons.1 h with rfl | h
   ·exact .inl (by simp)
   ·rcases upd_mem h with h | ⟨m', h1, h2, h3⟩
    ·exact .inl (by simp [h])
    ·exact .inr ⟨m', by simp [h1], h2, h3⟩
theorem ziG {f : Ml → Ml} {id : Int} (hf : ∀ m, (f m).id = m.id) : ∀ l : List Ml, (updA l id f).map (·.id) = l.map (·.id)
 | [] => rfl
 | m :: r => by
  rw [updA]
  split
  ·simp [hf]
  ·simp [ziG hf r]
theorem zes {id : Int} : ∀ l : List Ml, (delA l id).Sublist l
 | [] => .slnil
 | m :: r => by
  rw [delA]
  split
  ·exact List.sublist_cons_self _ _
  ·exact List.Sublist.cons_cons m (zes r)
theorem znd {l l' : List Ml} (h : l'.map (·.id) = l.map (·.id)) (ha : l.Pairwise fun x y => x.id < y.id) : l'.Pairwise fun x y => x.id < y.id := by
 have h1 : (l.map (·.id)).Pairwise (· < ·) := List.pairwise_map.2 ha
 rw [← h] at h1
 exact List.pairwise_map.1 h1
theorem GoodQ.mails (g : GoodQ A) {l : List Ml} (h1 : l.length ≤ 4096) (h2 : l.Pairwise fun x y => x.id < y.id) (h3 : ∀ m ∈ l, FitP A m) : GoodQ { A with mails := l } :=
 ⟨g.nm, g.nb, g.st, g.bx, g.bid, h1, h2, fun m hm => (h3 m hm).mono (Int.le_refl _) (Int.le_refl _) fun _ h => h, g.sl, g.sasc, g.src, g.nl, g.key, g.knd, g.act⟩
theorem GoodQ.boxes (g : GoodQ A) {l : List Bx} (h1 : RightP l) (h2 : ∀ b ∈ l, b.id < A.nb) (h3 : ∀ i, hasId A.boxes i = true → hasId l i = true) : GoodQ { A with boxes := l } :=
 ⟨g.nm, g.nb, g.st, h1, h2, g.ml, g.asc, fun m hm => (g.fit m hm).mono (Int.le_refl _) (Int.le_refl _) h3, g.sl, g.sasc, g.src, g.nl, g.key, g.knd, g.act⟩
theorem zju (g : GoodQ A) {id : Int} {f : Ml → Ml} (hid : ∀ m, (f m).id = m.id) (hf : ∀ m ∈ A.mails, m.id = id → FitP A (f m)) : GoodQ { A with mails := updA A.mails id f } := by
 refine g.mails ?_ (znd (ziG hid _) g.asc) fun m hm => ?_
 ·have := congrArg List.length (ziG (id := id) hid A.mails)
  rw [List.length_map, List.length_map] at this
  have := g.ml; omega
 ·rcases upd_mem hm with h | ⟨m', h1, h2, rfl⟩
  ·exact g.fit m h
  ·exact hf m' h1 h2
end
section
variable {A : Acc} {o : Opr} {r : Acc × Int}
theorem zhF {l : List Int} (h : AscB ltI l) : l.Nodup := h.imp fun {a b} h e => by subst e; rw [stoI.irr] at h; cases h
theorem zlq (g : GoodQ A) (h : mailA A o = .ok r) : GoodQ r.1 ∧ r.1.st = A.st := by
 unfold mailA at h
 split at h
 ·cases h
 rename_i h1
 split at h
 ·cases h
 rename_i h2
 split at h
 ·cases h
 rename_i h3
 injection h with h
 subst h
 have hth : thereB A.boxes o.boxes = true := by simpa using h2
 have hfl : flagsB o.add = true := by
  cases hq : flagsB o.add with
  | true => rfl
  | false => exact absurd (.inr (.inl hq)) h1
 have hat : 0 ≤ o.at_ ∧ o.at_ ≤ 1099511627776 := Decidable.byContradiction fun q => h1 (.inr (.inr (.inl q)))
 have hsz : 0 ≤ o.size ∧ o.size ≤ 65536 := Decidable.byContradiction fun q => h1 (.inr (.inr (.inr q)))
 have hnm := g.nm
 have hne : o.boxes ≠ [] := fun q => h1 (.inl q)
 refine ⟨⟨⟨by show 1 ≤ A.nm + 1; omega, by show A.nm + 1 ≤ M40; unfold M40; omega⟩, g.nb, g.st, g.bx, g.bid, ?_, ?_, ?_, g.sl, g.sasc, g.src, g.nl, g.key, g.knd, g.act⟩, rfl⟩
 ·show (A.mails ++ [_]).length ≤ 4096
  rw [List.length_append]; simp; omega
 ·refine List.pairwise_append.2 ⟨g.asc, by simp, fun x hx y hy => ?_⟩
  rw [List.mem_singleton.1 hy]
  have := (g.fit x hx).id
  show x.id < A.nm
  omega
 ·intro m hm
  rcases List.mem_append.1 hm with hm | hm
  ·exact (g.fit m hm).mono (by show A.nm ≤ A.nm + 1; omega) (Int.le_refl _) fun _ h => h
  ·rw [List.mem_singleton.1 hm]
   exact ⟨⟨hnm.1, by show A.nm ≤ A.nm + 1 - 1; omega⟩, fun q => hne ((zdG stoI _).1 q), zbV stoI _, fun b hb => zhC.1 hth b ((zbX stoI _ _).1 hb), by show (sortT o.add).length ≤ 20; omega, zbV stoT _, fun f hf => List.all_eq_true.1 hfl f ((zbX stoT _ _).1 hf), hat, hsz, ⟨g.st, Int.le_refl _⟩⟩
theorem zkZ (g : GoodQ A) (h : flagA A o = .ok r) : GoodQ r.1 ∧ r.1.st = A.st := by
 unfold flagA at h
 split at h
 ·cases h
 rename_i m hm
 split at h
 ·cases h
 rename_i h1
 split at h
 ·cases h
 rename_i h2
 injection h with h
 subst h
 obtain ⟨hmm, hmi⟩ := of_ok hm
 have hfl : flagsB o.add = true := by
  cases hq : flagsB o.add with
  | true => rfl
  | false => exact absurd (.inl hq) h1
 refine ⟨zju (f := fun m => { m with flags := newFlags m o, mod := A.st }) g (fun _ => rfl) fun m' hm' hi => ?_, rfl⟩
 have e : m' = m := by
  obtain ⟨i, hi', rfl⟩ := List.getElem_of_mem hm'
  obtain ⟨j, hj', rfl⟩ := List.getElem_of_mem hmm
  rcases Nat.lt_trichotomy i j with q | q | q
  ·have := (List.pairwise_iff_getElem.1 g.asc) i j hi' hj' q; omega
  ·subst q; rfl
  ·have := (List.pairwise_iff_getElem.1 g.asc) j i hj' hi' q; omega
 subst e
 have hf := g.fit m' hm'
 refine ⟨hf.id, hf.ne, hf.asc, hf.there, by show (newFlags m' o).length ≤ 20; omega, zej _ (zbV stoT _), fun f hq => ?_, hf.at_, hf.size, ⟨g.st, Int.le_refl _⟩⟩
 have hq := (zbX stoT _ _).1 (List.mem_filter.1 hq).1
 rcases List.mem_append.1 hq with hq | hq
 ·exact hf.fok f hq
 ·exact List.all_eq_true.1 hfl f hq
theorem zmH (g : GoodQ A) (h : moveA A o = .ok r) : GoodQ r.1 ∧ r.1.st = A.st := by
 unfold moveA at h
 split at h
 ·cases h
 rename_i m hm
 split at h
 ·cases h
 rename_i h1
 split at h
 ·cases h
 rename_i h2
 injection h with h
 subst h
 have hth : thereB A.boxes o.boxes = true := by simpa using h2
 refine ⟨zju (f := fun m => { m with boxes := sortI o.boxes, mod := A.st }) g (fun _ => rfl) fun m' hm' hi => ?_, rfl⟩
 have hf := g.fit m' hm'
 exact ⟨hf.id, fun q => h1 ((zdG stoI _).1 q), zbV stoI _, fun b hb => zhC.1 hth b ((zbX stoI _ _).1 hb), hf.fl, hf.fasc, hf.fok, hf.at_, hf.size, ⟨g.st, Int.le_refl _⟩⟩
theorem zhH (g : GoodQ A) (h : destroyA A o = .ok r) : GoodQ r.1 ∧ r.1.st = A.st := by
 unfold destroyA at h
 split at h
 ·cases h
 injection h with h
 subst h
 exact ⟨g.mails (Nat.le_trans (zes _).length_le g.ml) (g.asc.sublist (zes _)) fun m hm => g.fit m ((zes _).subset hm), rfl⟩
theorem zeg {l l' : List Bx} (h : ∀ b ∈ l, ∃ c ∈ l', c.id = b.id) (i : Int) (hi : hasId l i = true) : hasId l' i = true := by
 obtain ⟨b, hb, e⟩ := (zaw _ _).1 hi
 obtain ⟨c, hc, e2⟩ := h b hb
 exact (zaw _ _).2 ⟨c, hc, e2.trans e⟩
theorem znW (g : GoodQ A) (h : addA A o = .ok r) : GoodQ r.1 ∧ r.1.st = A.st := by
 unfold addA at h
 split at h
 ·cases h
 rename_i h1
 split at h
 ·cases h
 rename_i h2
 injection h with h
 subst h
 have h2 : (addL A.boxes o.up o.name o.role A.nb).2 = 0 := by simpa using h2
 obtain ⟨hr, ho⟩ := (zmt _ _ _ _).1 h2
 have hb := (zjN hr ho).1
 have he : (addL A.boxes o.up o.name o.role A.nb).1 = insL A.boxes ⟨A.nb, o.up, o.name, o.role⟩ := by rw [zql, if_pos h2]
 have hnb := g.nb
 refine ⟨?_, rfl⟩
 rw [he]
 refine ⟨g.nm, ⟨by show 1 ≤ A.nb + 1; omega, by show A.nb + 1 ≤ M40; unfold M40; omega⟩, g.st, hb, fun b hb => ?_, g.ml, g.asc, fun m hm => (g.fit m hm).mono (Int.le_refl _) (Int.le_refl _) fun i hi => zeg (fun b hb => ⟨b, mem_ins.2 (.inr hb), rfl⟩) i hi, g.sl, g.sasc, g.src, g.nl, g.key, g.knd, g.act⟩
 show b.id < A.nb + 1
 rcases mem_ins.1 hb with rfl | hb
 ·show A.nb < A.nb + 1; omega
 ·have := g.bid b hb; omega
theorem zcX {x : List Bx × Nat} (h : boxesA A x = .ok r) : x.2 = 0 ∧ r = ({ A with boxes := x.1 }, 0) := by
 unfold boxesA at h
 split at h
 ·cases h
 ·rename_i h1
  injection h with h
  exact ⟨by simpa using h1, h.symm⟩
theorem zlY (g : GoodQ A) (h : nameA A o = .ok r) : GoodQ r.1 ∧ r.1.st = A.st := by
 obtain ⟨h0, rfl⟩ := zcX h
 obtain ⟨hr, x, hx, hi, h1, h2⟩ := (zjH _ _).1 h0
 rw [← hi] at h2
 have hb := (zlk hr hx h1 h2).1
 rw [hi] at hb
 have he : (nameL A.boxes o.box o.name).1 = setName A.boxes o.box o.name := by rw [zjk, if_pos h0]
 refine ⟨?_, rfl⟩
 show GoodQ { A with boxes := (nameL A.boxes o.box o.name).1 }
 rw [he]
 refine g.boxes hb (fun c hc => ?_) fun i hi => zeg (fun b hb => ⟨_, List.mem_map_of_mem hb, by split <;> rfl⟩) i hi
 obtain ⟨b, hb, rfl⟩ := List.mem_map.1 hc
 have := g.bid b hb
 split <;> exact this
theorem zmA (g : GoodQ A) (h : hangA A o = .ok r) : GoodQ r.1 ∧ r.1.st = A.st := by
 obtain ⟨h0, rfl⟩ := zcX h
 obtain ⟨hr, x, hx, hi, h1⟩ := (zji _ _).1 h0
 have hb := (zlE hr hx h1).1
 rw [hi] at hb
 have he : (moveL A.boxes o.box o.up).1 = setUp A.boxes o.box o.up := by rw [zjr, if_pos h0]
 refine ⟨?_, rfl⟩
 show GoodQ { A with boxes := (moveL A.boxes o.box o.up).1 }
 rw [he]
 refine g.boxes hb (fun c hc => ?_) fun i hi => zeg (fun b hb => ⟨_, List.mem_map_of_mem hb, by split <;> rfl⟩) i hi
 obtain ⟨b, hb, rfl⟩ := List.mem_map.1 hc
 have := g.bid b hb
 split <;> exact this
end
section
variable {A : Acc} {o : Opr} {r : Acc × Int}
theorem zoe (st box : Int) (m : Ml) : (outOf st box m).id = m.id := by unfold outOf; split <;> rfl
theorem zmI (g : GoodQ A) (h : dropA A o = .ok r) : GoodQ r.1 ∧ r.1.st = A.st := by
 unfold dropA at h
 split at h
 ·cases h
 rename_i h0
 split at h
 ·cases h
 split at h
 ·cases h
 rename_i h2
 injection h with h
 subst h
 have h0 : (dropL A.boxes o.box).2 = 0 := by simpa using h0
 obtain ⟨hr, ⟨x, hx, hi⟩, hu⟩ := (zjD _).1 h0
 have he : (dropL A.boxes o.box).1 = delL A.boxes o.box := by rw [zjI, if_pos h0]
 refine ⟨?_, rfl⟩
 rw [he]
 refine ⟨g.nm, g.nb, g.st, zkg hr hu, fun b hb => g.bid b (ziU.1 hb).1, by show (A.mails.map _).length ≤ 4096; rw [List.length_map]; exact g.ml, znd (by rw [List.map_map]; exact List.map_congr_left fun m _ => zoe _ _ _) g.asc, fun m hm => ?_, g.sl, g.sasc, g.src, g.nl, g.key, g.knd, g.act⟩
 obtain ⟨y, hy, rfl⟩ := List.mem_map.1 hm
 have hf := g.fit y hy
 have hth : ∀ i, i ≠ o.box → hasId A.boxes i = true → hasId (delL A.boxes o.box) i = true := fun i hi hq => by
  obtain ⟨b, hb, e⟩ := (zaw _ _).1 hq
  exact (zaw _ _).2 ⟨b, ziU.2 ⟨hb, by omega⟩, e⟩
 have hnd := zhF hf.asc
 unfold outOf
 by_cases hb : o.box ∈ y.boxes
 ·rw [if_pos hb]
  have hne : y.boxes.erase o.box ≠ [] := fun e => by
   have hl := List.length_erase_of_mem hb
   rw [e] at hl
   have h1 : y.boxes.length = 1 := by have := List.length_pos_iff.2 hf.ne; simp at hl; omega
   obtain ⟨z, hz⟩ := List.length_eq_one_iff.1 h1
   rw [hz] at hb
   have hzb : o.box = z := by simpa using hb
   exact h2 (List.any_eq_true.2 ⟨y, hy, by rw [hz, hzb]; simp⟩)
  exact ⟨hf.id, hne, List.Pairwise.sublist List.erase_sublist hf.asc, fun b hq => hth b (fun e => by subst e; exact (hnd.mem_erase_iff.1 hq).1 rfl) (hf.there b (List.mem_of_mem_erase hq)), hf.fl, hf.fasc, hf.fok, hf.at_, hf.size, ⟨g.st, Int.le_refl _⟩⟩
 ·rw [if_neg hb]
  exact ⟨hf.id, hf.ne, hf.asc, fun b hq => hth b (fun e => hb (e ▸ hq)) (hf.there b hq), hf.fl, hf.fasc, hf.fok, hf.at_, hf.size, hf.mod⟩
theorem zbY {l : List Sc} {nm : List UInt8} : hasS l nm = true ↔ ∃ s ∈ l, s.name = nm := by unfold hasS; simp
theorem GoodQ.scripts (g : GoodQ A) {l : List Sc} (h1 : l.length ≤ 16) (h2 : AscS l) (h3 : ∀ s ∈ l, srcB s = true) (h4 : A.active = [] ∨ hasS l A.active = true) : GoodQ { A with scripts := l } :=
 ⟨g.nm, g.nb, g.st, g.bx, g.bid, g.ml, g.asc, fun m hm => (g.fit m hm).mono (Int.le_refl _) (Int.le_refl _) fun _ h => h, h1, h2, h3, g.nl, g.key, g.knd, h4⟩
theorem zoW (a : List UInt8) : ltT a a = false := stoT.irr a
theorem zoL {a b c : List UInt8} (h1 : ltT a b = true) (h2 : ltT b c = true) : ltT a c = true := stoT.tr _ _ _ h1 h2
theorem zkU (nm : List UInt8) : ∀ (l : List Sc) (k : Nat) (hk : k < l.length), k < idxS l nm → ltT l[k].name nm = true
 | [], k, hk, _ => by simp at hk
 | a :: t, k, hk, h => by
  unfold idxS at h
  by_cases ha : ltT a.name nm = true
  ·rw [List.takeWhile_cons_of_pos (by simpa using ha), List.length_cons] at h
   cases k with
   | zero => exact ha
   | succ k => exact zkU nm t k (by simpa using hk) (by unfold idxS; omega)
  ·rw [List.takeWhile_cons_of_neg (by simpa using ha)] at h
   simp at h
theorem zlA (nm : List UInt8) : ∀ (l : List Sc), AscS l → ∀ (k : Nat) (hk : k < l.length), idxS l nm ≤ k → ltT l[k].name nm = false
 | [], _, k, hk, _ => by simp at hk
 | a :: t, hp, k, hk, h => by
  have hp' := List.pairwise_cons.1 hp
  by_cases ha : ltT a.name nm = true
  ·unfold idxS at h
   rw [List.takeWhile_cons_of_pos (by simpa using ha), List.length_cons] at h
   cases k with
   | zero => omega
   | succ k => exact zlA nm t hp'.2 k (by simpa using hk) (by unfold idxS; omega)
  ·have ha : ltT a.name nm = false := by simpa using ha
   cases k with
   | zero => exact ha
   | succ k =>
    cases hq : ltT (a :: t)[k + 1].name nm with
    | false => rfl
    | true =>
     have := zoL (hp'.1 _ (List.getElem_mem (by simpa using hk))) hq
     rw [ha] at this; cases this
theorem zqT (l : List Sc) (nm : List UInt8) : idxS l nm ≤ l.length := by unfold idxS; exact (List.takeWhile_sublist _).length_le
theorem zlT {l : List Sc} {nm : List UInt8} (hp : AscS l) (h : hasS l nm = true) : ∃ hk : idxS l nm < l.length, l[idxS l nm].name = nm := by
 obtain ⟨s, hs, e⟩ := zbY.1 h
 obtain ⟨j, hj, rfl⟩ := List.getElem_of_mem hs
 have h1 : idxS l nm ≤ j := Nat.le_of_not_lt fun q => by have := zkU nm l j hj q; rw [e, zoW] at this; cases this
 refine ⟨by omega, ?_⟩
 have hq : ¬ idxS l nm < j := fun q => by
  have h2 := zlA nm l hp (idxS l nm) (by omega) (Nat.le_refl _)
  have h3 := (List.pairwise_iff_getElem.1 hp) (idxS l nm) j (by omega) hj q
  rw [e] at h3
  rw [h3] at h2; cases h2
 have : idxS l nm = j := by omega
 simp only [this]; exact e
theorem znB (g : GoodQ A) (h : setA A o = .ok r) : GoodQ r.1 ∧ r.1.st = A.st := by
 unfold setA at h
 split at h
 ·cases h
 rename_i h1
 split at h
 ·cases h
 rename_i h2
 have hsb : srcB ⟨o.name, o.text⟩ = true := by
  unfold srcB
  rw [show scB o.name = true by simpa using h1, decide_eq_true (by show o.text.length ≤ 32768; omega)]; rfl
 split at h
 ·rename_i h3
  injection h with h
  subst h
  obtain ⟨hk, he⟩ := zlT g.sasc h3
  have hnm : (A.scripts.set (idxS A.scripts o.name) ⟨o.name, o.text⟩).map (·.name) = A.scripts.map (·.name) := by
   rw [List.map_set]
   apply List.ext_getElem (by simp)
   intro j h1 h2
   rw [List.getElem_set]
   split
   ·rename_i e; subst e; simp [he]
   ·rfl
  refine ⟨g.scripts (by rw [List.length_set]; exact g.sl) ?_ (fun s hs => ?_) ?_, rfl⟩
  ·have : (A.scripts.map (·.name)).Pairwise fun a b => ltT a b = true := List.pairwise_map.2 g.sasc
   rw [← hnm] at this
   exact List.pairwise_map.1 this
  ·rcases List.mem_or_eq_of_mem_set hs with hs | rfl
   ·exact g.src s hs
   ·exact hsb
  ·refine g.act.imp id fun q => ?_
   obtain ⟨s, hs, e⟩ := zbY.1 q
   have : A.active ∈ (A.scripts.set (idxS A.scripts o.name) ⟨o.name, o.text⟩).map (·.name) := by rw [hnm, ← e]; exact List.mem_map_of_mem hs
   obtain ⟨t, ht, e2⟩ := List.mem_map.1 this
   exact zbY.2 ⟨t, ht, e2⟩
 ·rename_i h3
  split at h
  ·cases h
  rename_i h4
  injection h with h
  subst h
  have h3 : hasS A.scripts o.name = false := by simpa using h3
  have hmem : ∀ s, s ∈ A.scripts.take (idxS A.scripts o.name) ++ ⟨o.name, o.text⟩ :: A.scripts.drop (idxS A.scripts o.name) ↔ s = ⟨o.name, o.text⟩ ∨ s ∈ A.scripts := fun s => by
   conv => rhs; rw [← List.take_append_drop (idxS A.scripts o.name) A.scripts]
   simp only [List.mem_append, List.mem_cons]
   constructor
   ·rintro (q | q | q)
    ·exact .inr (.inl q)
    ·exact .inl q
    ·exact .inr (.inr q)
   ·rintro (q | q | q)
    ·exact .inr (.inl q)
    ·exact .inl q
    ·exact .inr (.inr q)
  have hle := zqT A.scripts o.name
  refine ⟨g.scripts (by rw [List.length_append, List.length_cons, List.length_take, List.length_drop]; omega) ?_ (fun s hs => ?_) ?_, rfl⟩
  ·have ht : ∀ s ∈ A.scripts.take (idxS A.scripts o.name), ltT s.name o.name = true := fun s hs => by
    obtain ⟨k, hk, rfl⟩ := List.getElem_of_mem hs
    rw [List.length_take] at hk
    rw [List.getElem_take]
    exact zkU _ _ _ (by omega) (by omega)
   have hd : ∀ s ∈ A.scripts.drop (idxS A.scripts o.name), ltT o.name s.name = true := fun s hs => by
    obtain ⟨k, hk, rfl⟩ := List.getElem_of_mem hs
    rw [List.length_drop] at hk
    rw [List.getElem_drop]
    have h5 := zlA o.name _ g.sasc (idxS A.scripts o.name + k) (by omega) (by omega)
    cases h6 : ltT o.name (A.scripts[idxS A.scripts o.name + k]'(by omega)).name with
    | true => rfl
    | false =>
     have := stoT.tri _ _ h5 h6
     have h7 : hasS A.scripts o.name = true := zbY.2 ⟨_, List.getElem_mem (by omega), this⟩
     rw [h3] at h7; cases h7
   unfold AscS
   rw [List.pairwise_append, List.pairwise_cons]
   refine ⟨List.Pairwise.sublist (List.take_sublist _ _) g.sasc, ⟨hd, List.Pairwise.sublist (List.drop_sublist _ _) g.sasc⟩, fun x hx y hy => ?_⟩
   rcases List.mem_cons.1 hy with rfl | hy
   ·exact ht x hx
   ·exact zoL (ht x hx) (hd y hy)
  ·rcases (hmem s).1 hs with rfl | hs
   ·exact hsb
   ·exact g.src s hs
  ·refine g.act.imp id fun q => ?_
   obtain ⟨s, hs, e⟩ := zbY.1 q
   exact zbY.2 ⟨s, (hmem s).2 (.inr hs), e⟩
theorem zkn (g : GoodQ A) (h : unsetA A o = .ok r) : GoodQ r.1 ∧ r.1.st = A.st := by
 unfold unsetA at h
 split at h
 ·cases h
 rename_i h1
 split at h
 ·cases h
 rename_i h2
 injection h with h
 subst h
 have h1 : hasS A.scripts o.name = true := by simpa using h1
 obtain ⟨hk, he⟩ := zlT g.sasc h1
 have hsub : (A.scripts.take (idxS A.scripts o.name) ++ A.scripts.drop (idxS A.scripts o.name + 1)).Sublist A.scripts := by
  rw [← List.eraseIdx_eq_take_drop_succ]
  exact List.eraseIdx_sublist _ _
 refine ⟨g.scripts (Nat.le_trans hsub.length_le g.sl) (List.Pairwise.sublist hsub g.sasc) (fun s hs => g.src s (hsub.subset hs)) ?_, rfl⟩
 refine g.act.imp id fun q => ?_
 obtain ⟨s, hs, e⟩ := zbY.1 q
 refine zbY.2 ⟨s, ?_, e⟩
 obtain ⟨j, hj, rfl⟩ := List.getElem_of_mem hs
 have hne : j ≠ idxS A.scripts o.name := fun q => by subst q; exact h2 (e.symm.trans he)
 rcases Nat.lt_or_gt_of_ne hne with q | q
 ·exact List.mem_append_left _ (List.mem_take_iff_getElem.2 ⟨j, by omega, rfl⟩)
 ·refine List.mem_append_right _ (List.mem_drop_iff_getElem.2 ⟨j - (idxS A.scripts o.name + 1), by omega, ?_⟩)
  congr 1
  omega
theorem zix (g : GoodQ A) (h : chooseA A o = .ok r) : GoodQ r.1 ∧ r.1.st = A.st := by
 unfold chooseA at h
 split at h
 ·cases h
 rename_i h1
 injection h with h
 subst h
 refine ⟨⟨g.nm, g.nb, g.st, g.bx, g.bid, g.ml, g.asc, fun m hm => (g.fit m hm).mono (Int.le_refl _) (Int.le_refl _) fun _ h => h, g.sl, g.sasc, g.src, g.nl, g.key, g.knd, ?_⟩, rfl⟩
 by_cases e : o.name = []
 ·exact .inl e
 ·refine .inr ?_
  cases hq : hasS A.scripts o.name with
  | true => rfl
  | false => exact absurd ⟨hq, e⟩ h1
theorem drop256 {α : Type} (l : List α) : (l.drop (l.length - 256)).length ≤ 256 := by rw [List.length_drop]; omega
theorem GoodQ.seens (g : GoodQ A) {l : List Sn} (h1 : l.length ≤ 256) (h2 : ∀ s ∈ l, s.key.length ≤ 1000 ∧ 0 ≤ s.at_ ∧ s.at_ ≤ M40) (h3 : (l.map (·.key)).Nodup) : GoodQ { A with seen := l } :=
 ⟨g.nm, g.nb, g.st, g.bx, g.bid, g.ml, g.asc, fun m hm => (g.fit m hm).mono (Int.le_refl _) (Int.le_refl _) fun _ h => h, g.sl, g.sasc, g.src, h1, h2, h3, g.act⟩
theorem ziK (g : GoodQ A) (h : answerA A o = .ok r) : GoodQ r.1 ∧ r.1.st = A.st := by
 unfold answerA at h
 by_cases h1 : 1000 < o.name.length ∨ ¬ (0 ≤ o.at_ ∧ o.at_ ≤ 1099511627776)
 ·rw [if_pos h1] at h; cases h
 rw [if_neg h1] at h
 have hat : 0 ≤ o.at_ ∧ o.at_ ≤ 1099511627776 := Decidable.byContradiction fun q => h1 (.inr q)
 have hln : o.name.length ≤ 1000 := by have : ¬ 1000 < o.name.length := fun q => h1 (.inl q); omega
 have hsub : ((seenA A.seen o).drop ((seenA A.seen o).length - 256)).Sublist (seenA A.seen o) := List.drop_sublist _ _
 have hlen := drop256 (seenA A.seen o)
 generalize (seenA A.seen o).drop ((seenA A.seen o).length - 256) = L at *
 injection h with h
 subst h
 refine ⟨g.seens hlen (fun s hs => ?_) ?_, rfl⟩
 ·have hs := hsub.subset hs
  unfold seenA at hs
  rcases List.mem_append.1 hs with hs | hs
  ·exact g.key s (List.mem_filter.1 hs).1
  ·rw [List.mem_singleton.1 hs]; exact ⟨hln, hat⟩
 ·have hnd : ((seenA A.seen o).map (·.key)).Nodup := by
   unfold seenA
   rw [List.map_append, List.nodup_append]
   refine ⟨g.knd.sublist (List.filter_sublist.map _), by simp, fun a ha b hb e => ?_⟩
   obtain ⟨s, hs, rfl⟩ := List.mem_map.1 ha
   have h2 := (List.mem_filter.1 hs).2
   have hb : b = o.name := by simpa using hb
   subst hb
   simp [e] at h2
  exact hnd.sublist (hsub.map _)
theorem zjC (g : GoodQ A) (h : oneA A o = .ok r) : GoodQ r.1 ∧ r.1.st = A.st := by
 unfold oneA at h
 by_cases k1 : o.kind = 1
 ·rw [if_pos k1] at h; exact zlq g h
 rw [if_neg k1] at h
 by_cases k2 : o.kind = 2
 ·rw [if_pos k2] at h; exact zkZ g h
 rw [if_neg k2] at h
 by_cases k3 : o.kind = 3
 ·rw [if_pos k3] at h; exact zmH g h
 rw [if_neg k3] at h
 by_cases k4 : o.kind = 4
 ·rw [if_pos k4] at h; exact zhH g h
 rw [if_neg k4] at h
 by_cases k5 : o.kind = 5
 ·rw [if_pos k5] at h; exact znW g h
 rw [if_neg k5] at h
 by_cases k6 : o.kind = 6
 ·rw [if_pos k6] at h; exact zlY g h
 rw [if_neg k6] at h
 by_cases k7 : o.kind = 7
 ·rw [if_pos k7] at h; exact zmA g h
 rw [if_neg k7] at h
 by_cases k8 : o.kind = 8
 ·rw [if_pos k8] at h; exact zmI g h
 rw [if_neg k8] at h
 by_cases k9 : o.kind = 9
 ·rw [if_pos k9] at h; exact znB g h
 rw [if_neg k9] at h
 by_cases k10 : o.kind = 10
 ·rw [if_pos k10] at h; exact zkn g h
 rw [if_neg k10] at h
 by_cases k11 : o.kind = 11
 ·rw [if_pos k11] at h; exact zix g h
 rw [if_neg k11] at h
 by_cases k12 : o.kind = 12
 ·rw [if_pos k12] at h; exact ziK g h
 rw [if_neg k12] at h
 cases h
theorem zhE (g : GoodP A) : GoodQ (nextA A) := by
 have := g.st
 exact ⟨g.nm, g.nb, by show 0 ≤ A.st + 1; omega, g.bx, g.bid, g.ml, g.asc, fun m hm => (g.fit m hm).mono (Int.le_refl _) (by show A.st ≤ A.st + 1; omega) fun _ h => h, g.sl, g.sasc, g.src, g.nl, g.key, g.knd, g.act⟩
theorem zks (g : GoodP A) (o : Opr) : GoodP (applyA A o).1 := by
 unfold applyA
 cases h : oneA (nextA A) o with
 | error c => exact g
 | ok r =>
  dsimp only
  have h1 := zjC (zhE g) h
  by_cases h2 : 1099511627776 < r.1.st
  ·rw [if_pos h2]; exact g
  ·rw [if_neg h2]; exact ⟨h1.1, by show r.1.st ≤ M40; unfold M40; omega⟩
theorem apply_st (g : GoodP A) (o : Opr) : (applyA A o).2.2 = 0 ∧ (applyA A o).1.st = A.st + 1 ∧ (∃ n, oneA (nextA A) o = .ok ((applyA A o).1, n) ∧ (applyA A o).2.1 = n) ∨ (applyA A o).2.2 ≠ 0 ∧ (applyA A o).1 = A ∧ (applyA A o).2.1 = 0 := by
 unfold applyA
 cases h : oneA (nextA A) o with
 | error c => exact .inr ⟨zmr h, rfl, rfl⟩
 | ok r =>
  dsimp only
  have h1 := zjC (zhE g) h
  by_cases h2 : 1099511627776 < r.1.st
  ·rw [if_pos h2]; exact .inr ⟨by simp, rfl, rfl⟩
  ·rw [if_neg h2]; exact .inl ⟨rfl, h1.2, r.2, rfl, rfl⟩
end
section
variable {A : Acc} {o : Opr} {r : Acc × Int}
theorem zmP (h : mailA A o = .ok r) : r = ({ A with mails := A.mails ++ [⟨A.nm, o.blob, sortI o.boxes, sortT o.add, o.at_, o.size, A.st⟩], nm := A.nm + 1 }, A.nm) := by
 unfold mailA at h
 split at h
 ·cases h
 split at h
 ·cases h
 split at h
 ·cases h
 ·injection h with h; exact h.symm
theorem zoM (h : addA A o = .ok r) : (addL A.boxes o.up o.name o.role A.nb).2 = 0 ∧ r = ({ A with boxes := (addL A.boxes o.up o.name o.role A.nb).1, nb := A.nb + 1 }, A.nb) := by
 unfold addA at h
 split at h
 ·cases h
 split at h
 ·cases h
 ·rename_i h0 h1
  injection h with h
  exact ⟨Classical.not_not.1 h1, h.symm⟩
theorem znc (h : flagA A o = .ok r) : ∃ m, ofA A o = .ok m ∧ r = ({ A with mails := updA A.mails o.id fun m => { m with flags := newFlags m o, mod := A.st } }, 0) := by
 unfold flagA at h
 split at h
 ·cases h
 ·rename_i m hm
  split at h
  ·cases h
  split at h
  ·cases h
  ·injection h with h
   exact ⟨m, hm, h.symm⟩
theorem zmx (h : moveA A o = .ok r) : ∃ m, ofA A o = .ok m ∧ r = ({ A with mails := updA A.mails o.id fun m' => { m' with boxes := sortI o.boxes, mod := A.st } }, 0) := by
 unfold moveA at h
 split at h
 ·cases h
 ·rename_i m hm
  split at h
  ·cases h
  split at h
  ·cases h
  ·injection h with h
   exact ⟨m, hm, h.symm⟩
theorem zgt (h : destroyA A o = .ok r) : r = ({ A with mails := delA A.mails o.id }, 0) := by
 unfold destroyA at h
 split at h
 ·cases h
 ·injection h with h
  exact h.symm
theorem zkR (h : dropA A o = .ok r) : (dropL A.boxes o.box).2 = 0 ∧ (∀ m ∈ A.mails, m.boxes ≠ [o.box]) ∧ r = ({ A with boxes := (dropL A.boxes o.box).1, mails := A.mails.map (outOf A.st o.box) }, 0) := by
 unfold dropA at h
 split at h
 ·cases h
 split at h
 ·cases h
 split at h
 ·cases h
 ·rename_i h0 h1 h2
  injection h with h
  refine ⟨Classical.not_not.1 h0, fun m hm e => h2 ?_, h.symm⟩
  rw [List.any_eq_true]
  exact ⟨m, hm, decide_eq_true e⟩
theorem zqP (h : setA A o = .ok r) : r.1.nm = A.nm ∧ r.1.nb = A.nb := by
 unfold setA at h
 split at h
 ·cases h
 split at h
 ·cases h
 split at h
 ·injection h with h; rw [← h]; exact ⟨rfl, rfl⟩
 split at h
 ·cases h
 ·injection h with h; rw [← h]; exact ⟨rfl, rfl⟩
theorem znQ (h : unsetA A o = .ok r) : r.1.nm = A.nm ∧ r.1.nb = A.nb := by
 unfold unsetA at h
 split at h
 ·cases h
 split at h
 ·cases h
 ·injection h with h; rw [← h]; exact ⟨rfl, rfl⟩
theorem zmp (h : chooseA A o = .ok r) : r.1.nm = A.nm ∧ r.1.nb = A.nb := by
 unfold chooseA at h
 split at h
 ·cases h
 ·injection h with h; rw [← h]; exact ⟨rfl, rfl⟩
theorem zlg (h : answerA A o = .ok r) : r.1.nm = A.nm ∧ r.1.nb = A.nb := by
 unfold answerA at h
 split at h
 ·cases h
 ·injection h with h; rw [← h]; exact ⟨rfl, rfl⟩
theorem znZ (h : oneA A o = .ok r) : A.nm ≤ r.1.nm ∧ A.nb ≤ r.1.nb := by
 unfold oneA at h
 by_cases k1 : o.kind = 1
 ·rw [if_pos k1] at h; rw [zmP h]; exact ⟨by show A.nm ≤ A.nm + 1; omega, Int.le_refl _⟩
 rw [if_neg k1] at h
 by_cases k2 : o.kind = 2
 ·rw [if_pos k2] at h; obtain ⟨m, _, rfl⟩ := znc h; exact ⟨Int.le_refl _, Int.le_refl _⟩
 rw [if_neg k2] at h
 by_cases k3 : o.kind = 3
 ·rw [if_pos k3] at h; obtain ⟨m, _, rfl⟩ := zmx h; exact ⟨Int.le_refl _, Int.le_refl _⟩
 rw [if_neg k3] at h
 by_cases k4 : o.kind = 4
 ·rw [if_pos k4] at h; rw [zgt h]; exact ⟨Int.le_refl _, Int.le_refl _⟩
 rw [if_neg k4] at h
 by_cases k5 : o.kind = 5
 ·rw [if_pos k5] at h; rw [(zoM h).2]; exact ⟨Int.le_refl _, by show A.nb ≤ A.nb + 1; omega⟩
 rw [if_neg k5] at h
 by_cases k6 : o.kind = 6
 ·rw [if_pos k6] at h; rw [(zcX h).2]; exact ⟨Int.le_refl _, Int.le_refl _⟩
 rw [if_neg k6] at h
 by_cases k7 : o.kind = 7
 ·rw [if_pos k7] at h; rw [(zcX h).2]; exact ⟨Int.le_refl _, Int.le_refl _⟩
 rw [if_neg k7] at h
 by_cases k8 : o.kind = 8
 ·rw [if_pos k8] at h; rw [(zkR h).2.2]; exact ⟨Int.le_refl _, Int.le_refl _⟩
 rw [if_neg k8] at h
 by_cases k9 : o.kind = 9
 ·rw [if_pos k9] at h; have := zqP h; omega
 rw [if_neg k9] at h
 by_cases k10 : o.kind = 10
 ·rw [if_pos k10] at h; have := znQ h; omega
 rw [if_neg k10] at h
 by_cases k11 : o.kind = 11
 ·rw [if_pos k11] at h; have := zmp h; omega
 rw [if_neg k11] at h
 by_cases k12 : o.kind = 12
 ·rw [if_pos k12] at h; have := zlg h; omega
 rw [if_neg k12] at h
 cases h
theorem zko (g : GoodP A) (o : Opr) : A.nm ≤ (applyA A o).1.nm ∧ A.nb ≤ (applyA A o).1.nb := by
 rcases apply_st g o with ⟨_, _, n, h, _⟩ | ⟨_, h, _⟩
 ·exact znZ h
 ·rw [h]; exact ⟨Int.le_refl _, Int.le_refl _⟩
theorem znM (g : GoodP A) {o : Opr} (h : (applyA A o).2.2 = 0) : (applyA A o).1.st = A.st + 1 ∧ oneA (nextA A) o = .ok ((applyA A o).1, (applyA A o).2.1) := by
 rcases apply_st g o with ⟨_, h1, n, h2, h3⟩ | ⟨h1, _⟩
 ·rw [h3]; exact ⟨h1, h2⟩
 ·exact absurd h h1
theorem ziV {f : Ml → Ml} {id : Int} : ∀ l : List Ml, (updA l id f).length = l.length
 | [] => rfl
 | x :: r => by
  rw [updA]
  split
  ·rfl
  ·rw [List.length_cons, List.length_cons, ziV r]
theorem zoc (g : GoodP A) {x y : Ml} (hx : x ∈ A.mails) (hy : y ∈ A.mails) (he : x.id = y.id) : x = y := by
 obtain ⟨i, hi, rfl⟩ := List.getElem_of_mem hx
 obtain ⟨j, hj, rfl⟩ := List.getElem_of_mem hy
 have hp := List.pairwise_iff_getElem.1 g.asc
 rcases Nat.lt_trichotomy i j with h | rfl | h
 ·have := hp i j hi hj h; omega
 ·rfl
 ·have := hp j i hj hi h; omega
theorem zgJ (g : GoodP A) {m : Ml} (hm : m ∈ A.mails) : findA A.mails m.id = some m := by
 cases h : findA A.mails m.id with
 | none =>
  unfold findA at h
  rw [List.find?_eq_none] at h
  exact absurd (decide_eq_true (rfl : m.id = m.id)) (h m hm)
 | some x =>
  obtain ⟨h1, h2⟩ := zeY h
  rw [zoc g h1 hm h2]
end
end Go.Cs
