/- Helper text of this claim: Ax4, Ax5, Ax6, Ae6: lemmas and contracts that the proved statement rests on; no conditions of its own. -/
import Derived.Test.YtohhkegmbgancaaGreatDoorGAx1
import Derived.Test.YtohhkegmbgancaaGreatDoorGBx5
import Derived.Test.YtohhkegmbgancaaGreatDoorGAdA
namespace Go.Cs
open Go.Lib
set_option linter.unusedVariables false
/-! ### What every account has that New and Apply make -/
abbrev M40 : Int := 1099511627776
structure FitP (A : Acc) (m : Ml) : Prop where
  id : 1 ≤ m.id ∧ m.id ≤ A.nm - 1
  ne : m.boxes ≠ []
  asc : AscB ltI m.boxes
  there : ∀ b ∈ m.boxes, hasId A.boxes b = true
  fl : m.flags.length ≤ 20
  fasc : AscB ltT m.flags
  fok : ∀ f ∈ m.flags, flagB f = true
  at_ : 0 ≤ m.at_ ∧ m.at_ ≤ M40
  size : 0 ≤ m.size ∧ m.size ≤ 65536
  mod : 0 ≤ m.mod ∧ m.mod ≤ A.st
structure GoodQ (A : Acc) : Prop where
  nm : 1 ≤ A.nm ∧ A.nm ≤ M40
  nb : 1 ≤ A.nb ∧ A.nb ≤ M40
  st : 0 ≤ A.st
  bx : RightP A.boxes
  bid : ∀ b ∈ A.boxes, b.id < A.nb
  ml : A.mails.length ≤ 4096
  asc : A.mails.Pairwise fun x y => x.id < y.id
  fit : ∀ m ∈ A.mails, FitP A m
  sl : A.scripts.length ≤ 16
  sasc : AscS A.scripts
  src : ∀ s ∈ A.scripts, srcB s = true
  nl : A.seen.length ≤ 256
  key : ∀ s ∈ A.seen, s.key.length ≤ 1000 ∧ 0 ≤ s.at_ ∧ s.at_ ≤ M40
  knd : (A.seen.map (·.key)).Nodup
  act : A.active = [] ∨ hasS A.scripts A.active = true
structure GoodP (A : Acc) : Prop extends GoodQ A where
  top : A.st ≤ M40
theorem inR_t {n lo hi : Int} (h : lo ≤ n ∧ n ≤ hi) : inR n lo hi = true := decide_eq_true h
theorem there_iff {bs : List Bx} {ids : List Int} : thereB bs ids = true ↔ ∀ i ∈ ids, hasId bs i = true := by
  unfold thereB hasId
  rw [List.all_eq_true]
theorem fitM_of {A : Acc} {m : Ml} (h : FitP A m) : fitM A m = true := by
  unfold fitM
  rw [inR_t h.id, decide_eq_true (List.length_pos_iff.2 h.ne), (rises_pair stoI.tr).2 h.asc, there_iff.2 h.there, decide_eq_true h.fl, (rises_pair stoT.tr).2 h.fasc, show flagsB m.flags = true from List.all_eq_true.2 h.fok, inR_t h.at_, inR_t h.size, inR_t h.mod]
  rfl
theorem keysB_of : ∀ (l : List Sn) (ks : List (List UInt8)), (∀ s ∈ l, s.key.length ≤ 1000 ∧ 0 ≤ s.at_ ∧ s.at_ ≤ M40) → (l.map (·.key)).Nodup → (∀ s ∈ l, s.key ∉ ks) → keysB ks l = true
  | [], _, _, _, _ => rfl
  | s :: r, ks, h1, h2, h3 => by
    have hs := h1 s (by simp)
    rw [List.map_cons, List.nodup_cons] at h2
    rw [keysB, decide_eq_true hs.1, inR_t hs.2, decide_eq_false (h3 s (by simp)), keysB_of r (ks ++ [s.key]) (fun x hx => h1 x (List.mem_cons_of_mem _ hx)) h2.2 fun x hx hq => by
      rcases List.mem_append.1 hq with hq | hq
      · exact h3 x (List.mem_cons_of_mem _ hx) hq
      · have e : x.key = s.key := by simpa using hq
        exact h2.1 (e ▸ List.mem_map_of_mem hx)]
    rfl
theorem good_right {A : Acc} (h : GoodP A) : rightA A = true := by
  have h1 : headB A = true := by
    unfold headB
    rw [inR_t h.nm, inR_t h.nb, inR_t ⟨h.st, h.top⟩, (rightL_iff _).2 h.bx, decide_eq_true h.ml, decide_eq_true h.sl, decide_eq_true h.nl]; rfl
  have h2 : lastB A = true := by
    unfold lastB
    cases hl : A.boxes.getLast? with
    | none => rfl
    | some b => exact decide_eq_true (h.bid b (List.mem_of_getLast? hl))
  have h3 : risesB idB A.mails = true := (rises_pair (lt := idB) (fun a b c h1 h2 => by simp only [idB, decide_eq_true_eq] at *; omega)).2 (h.asc.imp fun h => decide_eq_true h)
  have h4 : risesB nameB A.scripts = true := (rises_pair (lt := nameB) (fun a b c h1 h2 => stoT.tr _ _ _ h1 h2)).2 h.sasc
  unfold rightA
  rw [h1, h2, h3, h4, show A.mails.all (fitM A) = true from List.all_eq_true.2 fun m hm => fitM_of (h.fit m hm), show A.scripts.all srcB = true from List.all_eq_true.2 h.src, keysB_of _ [] h.key h.knd (by simp)]
  rcases h.act with e | e
  · rw [decide_eq_true e]; rfl
  · rw [e]; simp
/-! ### The operations keep it -/
section
variable {A : Acc} {o : Opr}
theorem FitP.mono {A A' : Acc} {m : Ml} (h : FitP A m) (h1 : A.nm ≤ A'.nm) (h2 : A.st ≤ A'.st) (h3 : ∀ b, hasId A.boxes b = true → hasId A'.boxes b = true) : FitP A' m :=
  ⟨by have := h.id; omega, h.ne, h.asc, fun b hb => h3 b (h.there b hb), h.fl, h.fasc, h.fok, h.at_, h.size, by have := h.mod; omega⟩
theorem find_id {l : List Ml} {id : Int} {m : Ml} (h : findA l id = some m) : m ∈ l ∧ m.id = id := by
  unfold findA at h
  exact ⟨List.mem_of_find?_eq_some h, by simpa using List.find?_some h⟩
theorem of_ok {m : Ml} (h : ofA A o = .ok m) : m ∈ A.mails ∧ m.id = o.id := by
  unfold ofA at h
  split at h
  · cases h
  · rename_i m' hm
    split at h
    · cases h
    · injection h with h
      subst h
      exact find_id hm
theorem upd_mem {f : Ml → Ml} {id : Int} : ∀ {l : List Ml} {x : Ml}, x ∈ updA l id f → x ∈ l ∨ ∃ m ∈ l, m.id = id ∧ x = f m
  | [], x, h => by simp [updA] at h
  | m :: r, x, h => by
    rw [updA] at h
    split at h
    · rename_i e
      rcases List.mem_cons.1 h with rfl | h
      · exact .inr ⟨m, by simp, e, rfl⟩
      · exact .inl (by simp [h])
    · rcases List.mem_cons.1 h with rfl | h
      · exact .inl (by simp)
      · rcases upd_mem h with h | ⟨m', h1, h2, h3⟩
        · exact .inl (by simp [h])
        · exact .inr ⟨m', by simp [h1], h2, h3⟩
theorem upd_ids {f : Ml → Ml} {id : Int} (hf : ∀ m, (f m).id = m.id) : ∀ l : List Ml, (updA l id f).map (·.id) = l.map (·.id)
  | [] => rfl
  | m :: r => by
    rw [updA]
    split
    · simp [hf]
    · simp [upd_ids hf r]
theorem del_sub {id : Int} : ∀ l : List Ml, (delA l id).Sublist l
  | [] => .slnil
  | m :: r => by
    rw [delA]
    split
    · exact List.sublist_cons_self _ _
    · exact List.Sublist.cons_cons m (del_sub r)
theorem asc_map {l l' : List Ml} (h : l'.map (·.id) = l.map (·.id)) (ha : l.Pairwise fun x y => x.id < y.id) : l'.Pairwise fun x y => x.id < y.id := by
  have h1 : (l.map (·.id)).Pairwise (· < ·) := List.pairwise_map.2 ha
  rw [← h] at h1
  exact List.pairwise_map.1 h1
theorem GoodQ.mails (g : GoodQ A) {l : List Ml} (h1 : l.length ≤ 4096) (h2 : l.Pairwise fun x y => x.id < y.id) (h3 : ∀ m ∈ l, FitP A m) : GoodQ { A with mails := l } :=
  ⟨g.nm, g.nb, g.st, g.bx, g.bid, h1, h2, fun m hm => (h3 m hm).mono (Int.le_refl _) (Int.le_refl _) fun _ h => h, g.sl, g.sasc, g.src, g.nl, g.key, g.knd, g.act⟩
theorem GoodQ.boxes (g : GoodQ A) {l : List Bx} (h1 : RightP l) (h2 : ∀ b ∈ l, b.id < A.nb) (h3 : ∀ i, hasId A.boxes i = true → hasId l i = true) : GoodQ { A with boxes := l } :=
  ⟨g.nm, g.nb, g.st, h1, h2, g.ml, g.asc, fun m hm => (g.fit m hm).mono (Int.le_refl _) (Int.le_refl _) h3, g.sl, g.sasc, g.src, g.nl, g.key, g.knd, g.act⟩
theorem upd_good (g : GoodQ A) {id : Int} {f : Ml → Ml} (hid : ∀ m, (f m).id = m.id) (hf : ∀ m ∈ A.mails, m.id = id → FitP A (f m)) : GoodQ { A with mails := updA A.mails id f } := by
  refine g.mails ?_ (asc_map (upd_ids hid _) g.asc) fun m hm => ?_
  · have := congrArg List.length (upd_ids (id := id) hid A.mails)
    rw [List.length_map, List.length_map] at this
    have := g.ml; omega
  · rcases upd_mem hm with h | ⟨m', h1, h2, rfl⟩
    · exact g.fit m h
    · exact hf m' h1 h2
end
end Go.Cs

namespace Go.Cs
open Go.Lib
set_option linter.unusedVariables false
section
variable {A : Acc} {o : Opr} {r : Acc × Int}
theorem asc_nodup {l : List Int} (h : AscB ltI l) : l.Nodup := h.imp fun {a b} h e => by subst e; rw [stoI.irr] at h; cases h
theorem mail_good (g : GoodQ A) (h : mailA A o = .ok r) : GoodQ r.1 ∧ r.1.st = A.st := by
  unfold mailA at h
  split at h
  · cases h
  rename_i h1
  split at h
  · cases h
  rename_i h2
  split at h
  · cases h
  rename_i h3
  injection h with h
  subst h
  have hth : thereB A.boxes o.boxes = true := by simpa using h2
  have hfl : flagsB o.add = true := by
    cases hq : flagsB o.add with
    | true => rfl
    | false => exact absurd (.inr (.inl hq)) h1
  have hat : 0 ≤ o.at_ ∧ o.at_ ≤ 1099511627776 := Decidable.byContradiction fun q => h1 (.inr (.inr (.inl q)))
  have hsz : 0 ≤ o.size ∧ o.size ≤ 65536 := Decidable.byContradiction fun q => h1 (.inr (.inr (.inr q)))
  have hnm := g.nm
  have hne : o.boxes ≠ [] := fun q => h1 (.inl q)
  refine ⟨⟨⟨by show 1 ≤ A.nm + 1; omega, by show A.nm + 1 ≤ M40; unfold M40; omega⟩, g.nb, g.st, g.bx, g.bid, ?_, ?_, ?_, g.sl, g.sasc, g.src, g.nl, g.key, g.knd, g.act⟩, rfl⟩
  · show (A.mails ++ [_]).length ≤ 4096
    rw [List.length_append]; simp; omega
  · refine List.pairwise_append.2 ⟨g.asc, by simp, fun x hx y hy => ?_⟩
    rw [List.mem_singleton.1 hy]
    have := (g.fit x hx).id
    show x.id < A.nm
    omega
  · intro m hm
    rcases List.mem_append.1 hm with hm | hm
    · exact (g.fit m hm).mono (by show A.nm ≤ A.nm + 1; omega) (Int.le_refl _) fun _ h => h
    · rw [List.mem_singleton.1 hm]
      exact ⟨⟨hnm.1, by show A.nm ≤ A.nm + 1 - 1; omega⟩, fun q => hne ((sortD_nil_iff stoI _).1 q), asc_sortD stoI _, fun b hb => there_iff.1 hth b ((mem_sortD stoI _ _).1 hb), by show (sortT o.add).length ≤ 20; omega, asc_sortD stoT _, fun f hf => List.all_eq_true.1 hfl f ((mem_sortD stoT _ _).1 hf), hat, hsz, ⟨g.st, Int.le_refl _⟩⟩
theorem flag_good (g : GoodQ A) (h : flagA A o = .ok r) : GoodQ r.1 ∧ r.1.st = A.st := by
  unfold flagA at h
  split at h
  · cases h
  rename_i m hm
  split at h
  · cases h
  rename_i h1
  split at h
  · cases h
  rename_i h2
  injection h with h
  subst h
  obtain ⟨hmm, hmi⟩ := of_ok hm
  have hfl : flagsB o.add = true := by
    cases hq : flagsB o.add with
    | true => rfl
    | false => exact absurd (.inl hq) h1
  refine ⟨upd_good (f := fun m => { m with flags := newFlags m o, mod := A.st }) g (fun _ => rfl) fun m' hm' hi => ?_, rfl⟩
  have e : m' = m := by
    obtain ⟨i, hi', rfl⟩ := List.getElem_of_mem hm'
    obtain ⟨j, hj', rfl⟩ := List.getElem_of_mem hmm
    rcases Nat.lt_trichotomy i j with q | q | q
    · have := (List.pairwise_iff_getElem.1 g.asc) i j hi' hj' q; omega
    · subst q; rfl
    · have := (List.pairwise_iff_getElem.1 g.asc) j i hj' hi' q; omega
  subst e
  have hf := g.fit m' hm'
  refine ⟨hf.id, hf.ne, hf.asc, hf.there, by show (newFlags m' o).length ≤ 20; omega, asc_filter _ (asc_sortD stoT _), fun f hq => ?_, hf.at_, hf.size, ⟨g.st, Int.le_refl _⟩⟩
  have hq := (mem_sortD stoT _ _).1 (List.mem_filter.1 hq).1
  rcases List.mem_append.1 hq with hq | hq
  · exact hf.fok f hq
  · exact List.all_eq_true.1 hfl f hq
theorem move_good (g : GoodQ A) (h : moveA A o = .ok r) : GoodQ r.1 ∧ r.1.st = A.st := by
  unfold moveA at h
  split at h
  · cases h
  rename_i m hm
  split at h
  · cases h
  rename_i h1
  split at h
  · cases h
  rename_i h2
  injection h with h
  subst h
  have hth : thereB A.boxes o.boxes = true := by simpa using h2
  refine ⟨upd_good (f := fun m => { m with boxes := sortI o.boxes, mod := A.st }) g (fun _ => rfl) fun m' hm' hi => ?_, rfl⟩
  have hf := g.fit m' hm'
  exact ⟨hf.id, fun q => h1 ((sortD_nil_iff stoI _).1 q), asc_sortD stoI _, fun b hb => there_iff.1 hth b ((mem_sortD stoI _ _).1 hb), hf.fl, hf.fasc, hf.fok, hf.at_, hf.size, ⟨g.st, Int.le_refl _⟩⟩
theorem destroy_good (g : GoodQ A) (h : destroyA A o = .ok r) : GoodQ r.1 ∧ r.1.st = A.st := by
  unfold destroyA at h
  split at h
  · cases h
  injection h with h
  subst h
  exact ⟨g.mails (Nat.le_trans (del_sub _).length_le g.ml) (g.asc.sublist (del_sub _)) fun m hm => g.fit m ((del_sub _).subset hm), rfl⟩
theorem hasId_mono {l l' : List Bx} (h : ∀ b ∈ l, ∃ c ∈ l', c.id = b.id) (i : Int) (hi : hasId l i = true) : hasId l' i = true := by
  obtain ⟨b, hb, e⟩ := (hasId_iff _ _).1 hi
  obtain ⟨c, hc, e2⟩ := h b hb
  exact (hasId_iff _ _).2 ⟨c, hc, e2.trans e⟩
theorem add_good (g : GoodQ A) (h : addA A o = .ok r) : GoodQ r.1 ∧ r.1.st = A.st := by
  unfold addA at h
  split at h
  · cases h
  rename_i h1
  split at h
  · cases h
  rename_i h2
  injection h with h
  subst h
  have h2 : (addL A.boxes o.up o.name o.role A.nb).2 = 0 := by simpa using h2
  obtain ⟨hr, ho⟩ := (add_iff _ _ _ _).1 h2
  have hb := (back_add hr ho).1
  have he : (addL A.boxes o.up o.name o.role A.nb).1 = insL A.boxes ⟨A.nb, o.up, o.name, o.role⟩ := by rw [add_res, if_pos h2]
  have hnb := g.nb
  refine ⟨?_, rfl⟩
  rw [he]
  refine ⟨g.nm, ⟨by show 1 ≤ A.nb + 1; omega, by show A.nb + 1 ≤ M40; unfold M40; omega⟩, g.st, hb, fun b hb => ?_, g.ml, g.asc, fun m hm => (g.fit m hm).mono (Int.le_refl _) (Int.le_refl _) fun i hi => hasId_mono (fun b hb => ⟨b, mem_ins.2 (.inr hb), rfl⟩) i hi, g.sl, g.sasc, g.src, g.nl, g.key, g.knd, g.act⟩
  show b.id < A.nb + 1
  rcases mem_ins.1 hb with rfl | hb
  · show A.nb < A.nb + 1; omega
  · have := g.bid b hb; omega
theorem boxes_ok {x : List Bx × Nat} (h : boxesA A x = .ok r) : x.2 = 0 ∧ r = ({ A with boxes := x.1 }, 0) := by
  unfold boxesA at h
  split at h
  · cases h
  · rename_i h1
    injection h with h
    exact ⟨by simpa using h1, h.symm⟩
theorem name_good (g : GoodQ A) (h : nameA A o = .ok r) : GoodQ r.1 ∧ r.1.st = A.st := by
  obtain ⟨h0, rfl⟩ := boxes_ok h
  obtain ⟨hr, x, hx, hi, h1, h2⟩ := (name_iff _ _).1 h0
  rw [← hi] at h2
  have hb := (back_name hr hx h1 h2).1
  rw [hi] at hb
  have he : (nameL A.boxes o.box o.name).1 = setName A.boxes o.box o.name := by rw [name_res, if_pos h0]
  refine ⟨?_, rfl⟩
  show GoodQ { A with boxes := (nameL A.boxes o.box o.name).1 }
  rw [he]
  refine g.boxes hb (fun c hc => ?_) fun i hi => hasId_mono (fun b hb => ⟨_, List.mem_map_of_mem hb, by split <;> rfl⟩) i hi
  obtain ⟨b, hb, rfl⟩ := List.mem_map.1 hc
  have := g.bid b hb
  split <;> exact this
theorem hang_good (g : GoodQ A) (h : hangA A o = .ok r) : GoodQ r.1 ∧ r.1.st = A.st := by
  obtain ⟨h0, rfl⟩ := boxes_ok h
  obtain ⟨hr, x, hx, hi, h1⟩ := (move_iff _ _).1 h0
  have hb := (back_move hr hx h1).1
  rw [hi] at hb
  have he : (moveL A.boxes o.box o.up).1 = setUp A.boxes o.box o.up := by rw [move_res, if_pos h0]
  refine ⟨?_, rfl⟩
  show GoodQ { A with boxes := (moveL A.boxes o.box o.up).1 }
  rw [he]
  refine g.boxes hb (fun c hc => ?_) fun i hi => hasId_mono (fun b hb => ⟨_, List.mem_map_of_mem hb, by split <;> rfl⟩) i hi
  obtain ⟨b, hb, rfl⟩ := List.mem_map.1 hc
  have := g.bid b hb
  split <;> exact this
end
end Go.Cs

namespace Go.Cs
open Go.Lib
set_option linter.unusedVariables false
section
variable {A : Acc} {o : Opr} {r : Acc × Int}
theorem outOf_id (st box : Int) (m : Ml) : (outOf st box m).id = m.id := by unfold outOf; split <;> rfl
theorem drop_good (g : GoodQ A) (h : dropA A o = .ok r) : GoodQ r.1 ∧ r.1.st = A.st := by
  unfold dropA at h
  split at h
  · cases h
  rename_i h0
  split at h
  · cases h
  split at h
  · cases h
  rename_i h2
  injection h with h
  subst h
  have h0 : (dropL A.boxes o.box).2 = 0 := by simpa using h0
  obtain ⟨hr, ⟨x, hx, hi⟩, hu⟩ := (drop_iff _).1 h0
  have he : (dropL A.boxes o.box).1 = delL A.boxes o.box := by rw [drop_res, if_pos h0]
  refine ⟨?_, rfl⟩
  rw [he]
  refine ⟨g.nm, g.nb, g.st, right_drop hr hu, fun b hb => g.bid b (mem_del.1 hb).1, by show (A.mails.map _).length ≤ 4096; rw [List.length_map]; exact g.ml, asc_map (by rw [List.map_map]; exact List.map_congr_left fun m _ => outOf_id _ _ _) g.asc, fun m hm => ?_, g.sl, g.sasc, g.src, g.nl, g.key, g.knd, g.act⟩
  obtain ⟨y, hy, rfl⟩ := List.mem_map.1 hm
  have hf := g.fit y hy
  have hth : ∀ i, i ≠ o.box → hasId A.boxes i = true → hasId (delL A.boxes o.box) i = true := fun i hi hq => by
    obtain ⟨b, hb, e⟩ := (hasId_iff _ _).1 hq
    exact (hasId_iff _ _).2 ⟨b, mem_del.2 ⟨hb, by omega⟩, e⟩
  have hnd := asc_nodup hf.asc
  unfold outOf
  by_cases hb : o.box ∈ y.boxes
  · rw [if_pos hb]
    have hne : y.boxes.erase o.box ≠ [] := fun e => by
      have hl := List.length_erase_of_mem hb
      rw [e] at hl
      have h1 : y.boxes.length = 1 := by have := List.length_pos_iff.2 hf.ne; simp at hl; omega
      obtain ⟨z, hz⟩ := List.length_eq_one_iff.1 h1
      rw [hz] at hb
      have hzb : o.box = z := by simpa using hb
      exact h2 (List.any_eq_true.2 ⟨y, hy, by rw [hz, hzb]; simp⟩)
    exact ⟨hf.id, hne, List.Pairwise.sublist List.erase_sublist hf.asc, fun b hq => hth b (fun e => by subst e; exact (hnd.mem_erase_iff.1 hq).1 rfl) (hf.there b (List.mem_of_mem_erase hq)), hf.fl, hf.fasc, hf.fok, hf.at_, hf.size, ⟨g.st, Int.le_refl _⟩⟩
  · rw [if_neg hb]
    exact ⟨hf.id, hf.ne, hf.asc, fun b hq => hth b (fun e => hb (e ▸ hq)) (hf.there b hq), hf.fl, hf.fasc, hf.fok, hf.at_, hf.size, hf.mod⟩
theorem hasS_iff {l : List Sc} {nm : List UInt8} : hasS l nm = true ↔ ∃ s ∈ l, s.name = nm := by unfold hasS; simp
theorem GoodQ.scripts (g : GoodQ A) {l : List Sc} (h1 : l.length ≤ 16) (h2 : AscS l) (h3 : ∀ s ∈ l, srcB s = true) (h4 : A.active = [] ∨ hasS l A.active = true) : GoodQ { A with scripts := l } :=
  ⟨g.nm, g.nb, g.st, g.bx, g.bid, g.ml, g.asc, fun m hm => (g.fit m hm).mono (Int.le_refl _) (Int.le_refl _) fun _ h => h, h1, h2, h3, g.nl, g.key, g.knd, h4⟩
theorem ltT_irr (a : List UInt8) : ltT a a = false := stoT.irr a
theorem ltT_tr {a b c : List UInt8} (h1 : ltT a b = true) (h2 : ltT b c = true) : ltT a c = true := stoT.tr _ _ _ h1 h2
theorem idx_lt (nm : List UInt8) : ∀ (l : List Sc) (k : Nat) (hk : k < l.length), k < idxS l nm → ltT l[k].name nm = true
  | [], k, hk, _ => by simp at hk
  | a :: t, k, hk, h => by
    unfold idxS at h
    by_cases ha : ltT a.name nm = true
    · rw [List.takeWhile_cons_of_pos (by simpa using ha), List.length_cons] at h
      cases k with
      | zero => exact ha
      | succ k => exact idx_lt nm t k (by simpa using hk) (by unfold idxS; omega)
    · rw [List.takeWhile_cons_of_neg (by simpa using ha)] at h
      simp at h
theorem idx_ge (nm : List UInt8) : ∀ (l : List Sc), AscS l → ∀ (k : Nat) (hk : k < l.length), idxS l nm ≤ k → ltT l[k].name nm = false
  | [], _, k, hk, _ => by simp at hk
  | a :: t, hp, k, hk, h => by
    have hp' := List.pairwise_cons.1 hp
    by_cases ha : ltT a.name nm = true
    · unfold idxS at h
      rw [List.takeWhile_cons_of_pos (by simpa using ha), List.length_cons] at h
      cases k with
      | zero => omega
      | succ k => exact idx_ge nm t hp'.2 k (by simpa using hk) (by unfold idxS; omega)
    · have ha : ltT a.name nm = false := by simpa using ha
      cases k with
      | zero => exact ha
      | succ k =>
        cases hq : ltT (a :: t)[k + 1].name nm with
        | false => rfl
        | true =>
          have := ltT_tr (hp'.1 _ (List.getElem_mem (by simpa using hk))) hq
          rw [ha] at this; cases this
theorem idx_le (l : List Sc) (nm : List UInt8) : idxS l nm ≤ l.length := by unfold idxS; exact (List.takeWhile_sublist _).length_le
theorem idx_hit {l : List Sc} {nm : List UInt8} (hp : AscS l) (h : hasS l nm = true) : ∃ hk : idxS l nm < l.length, l[idxS l nm].name = nm := by
  obtain ⟨s, hs, e⟩ := hasS_iff.1 h
  obtain ⟨j, hj, rfl⟩ := List.getElem_of_mem hs
  have h1 : idxS l nm ≤ j := Nat.le_of_not_lt fun q => by have := idx_lt nm l j hj q; rw [e, ltT_irr] at this; cases this
  refine ⟨by omega, ?_⟩
  have hq : ¬ idxS l nm < j := fun q => by
    have h2 := idx_ge nm l hp (idxS l nm) (by omega) (Nat.le_refl _)
    have h3 := (List.pairwise_iff_getElem.1 hp) (idxS l nm) j (by omega) hj q
    rw [e] at h3
    rw [h3] at h2; cases h2
  have : idxS l nm = j := by omega
  simp only [this]; exact e
theorem set_good (g : GoodQ A) (h : setA A o = .ok r) : GoodQ r.1 ∧ r.1.st = A.st := by
  unfold setA at h
  split at h
  · cases h
  rename_i h1
  split at h
  · cases h
  rename_i h2
  have hsb : srcB ⟨o.name, o.text⟩ = true := by
    unfold srcB
    rw [show scB o.name = true by simpa using h1, decide_eq_true (by show o.text.length ≤ 32768; omega)]; rfl
  split at h
  · rename_i h3
    injection h with h
    subst h
    obtain ⟨hk, he⟩ := idx_hit g.sasc h3
    have hnm : (A.scripts.set (idxS A.scripts o.name) ⟨o.name, o.text⟩).map (·.name) = A.scripts.map (·.name) := by
      rw [List.map_set]
      apply List.ext_getElem (by simp)
      intro j h1 h2
      rw [List.getElem_set]
      split
      · rename_i e; subst e; simp [he]
      · rfl
    refine ⟨g.scripts (by rw [List.length_set]; exact g.sl) ?_ (fun s hs => ?_) ?_, rfl⟩
    · have : (A.scripts.map (·.name)).Pairwise fun a b => ltT a b = true := List.pairwise_map.2 g.sasc
      rw [← hnm] at this
      exact List.pairwise_map.1 this
    · rcases List.mem_or_eq_of_mem_set hs with hs | rfl
      · exact g.src s hs
      · exact hsb
    · refine g.act.imp id fun q => ?_
      obtain ⟨s, hs, e⟩ := hasS_iff.1 q
      have : A.active ∈ (A.scripts.set (idxS A.scripts o.name) ⟨o.name, o.text⟩).map (·.name) := by rw [hnm, ← e]; exact List.mem_map_of_mem hs
      obtain ⟨t, ht, e2⟩ := List.mem_map.1 this
      exact hasS_iff.2 ⟨t, ht, e2⟩
  · rename_i h3
    split at h
    · cases h
    rename_i h4
    injection h with h
    subst h
    have h3 : hasS A.scripts o.name = false := by simpa using h3
    have hmem : ∀ s, s ∈ A.scripts.take (idxS A.scripts o.name) ++ ⟨o.name, o.text⟩ :: A.scripts.drop (idxS A.scripts o.name) ↔ s = ⟨o.name, o.text⟩ ∨ s ∈ A.scripts := fun s => by
      conv => rhs; rw [← List.take_append_drop (idxS A.scripts o.name) A.scripts]
      simp only [List.mem_append, List.mem_cons]
      constructor
      · rintro (q | q | q)
        · exact .inr (.inl q)
        · exact .inl q
        · exact .inr (.inr q)
      · rintro (q | q | q)
        · exact .inr (.inl q)
        · exact .inl q
        · exact .inr (.inr q)
    have hle := idx_le A.scripts o.name
    refine ⟨g.scripts (by rw [List.length_append, List.length_cons, List.length_take, List.length_drop]; omega) ?_ (fun s hs => ?_) ?_, rfl⟩
    · have ht : ∀ s ∈ A.scripts.take (idxS A.scripts o.name), ltT s.name o.name = true := fun s hs => by
        obtain ⟨k, hk, rfl⟩ := List.getElem_of_mem hs
        rw [List.length_take] at hk
        rw [List.getElem_take]
        exact idx_lt _ _ _ (by omega) (by omega)
      have hd : ∀ s ∈ A.scripts.drop (idxS A.scripts o.name), ltT o.name s.name = true := fun s hs => by
        obtain ⟨k, hk, rfl⟩ := List.getElem_of_mem hs
        rw [List.length_drop] at hk
        rw [List.getElem_drop]
        have h5 := idx_ge o.name _ g.sasc (idxS A.scripts o.name + k) (by omega) (by omega)
        cases h6 : ltT o.name (A.scripts[idxS A.scripts o.name + k]'(by omega)).name with
        | true => rfl
        | false =>
          have := stoT.tri _ _ h5 h6
          have h7 : hasS A.scripts o.name = true := hasS_iff.2 ⟨_, List.getElem_mem (by omega), this⟩
          rw [h3] at h7; cases h7
      unfold AscS
      rw [List.pairwise_append, List.pairwise_cons]
      refine ⟨List.Pairwise.sublist (List.take_sublist _ _) g.sasc, ⟨hd, List.Pairwise.sublist (List.drop_sublist _ _) g.sasc⟩, fun x hx y hy => ?_⟩
      rcases List.mem_cons.1 hy with rfl | hy
      · exact ht x hx
      · exact ltT_tr (ht x hx) (hd y hy)
    · rcases (hmem s).1 hs with rfl | hs
      · exact hsb
      · exact g.src s hs
    · refine g.act.imp id fun q => ?_
      obtain ⟨s, hs, e⟩ := hasS_iff.1 q
      exact hasS_iff.2 ⟨s, (hmem s).2 (.inr hs), e⟩
theorem unset_good (g : GoodQ A) (h : unsetA A o = .ok r) : GoodQ r.1 ∧ r.1.st = A.st := by
  unfold unsetA at h
  split at h
  · cases h
  rename_i h1
  split at h
  · cases h
  rename_i h2
  injection h with h
  subst h
  have h1 : hasS A.scripts o.name = true := by simpa using h1
  obtain ⟨hk, he⟩ := idx_hit g.sasc h1
  have hsub : (A.scripts.take (idxS A.scripts o.name) ++ A.scripts.drop (idxS A.scripts o.name + 1)).Sublist A.scripts := by
    rw [← List.eraseIdx_eq_take_drop_succ]
    exact List.eraseIdx_sublist _ _
  refine ⟨g.scripts (Nat.le_trans hsub.length_le g.sl) (List.Pairwise.sublist hsub g.sasc) (fun s hs => g.src s (hsub.subset hs)) ?_, rfl⟩
  refine g.act.imp id fun q => ?_
  obtain ⟨s, hs, e⟩ := hasS_iff.1 q
  refine hasS_iff.2 ⟨s, ?_, e⟩
  obtain ⟨j, hj, rfl⟩ := List.getElem_of_mem hs
  have hne : j ≠ idxS A.scripts o.name := fun q => by subst q; exact h2 (e.symm.trans he)
  rcases Nat.lt_or_gt_of_ne hne with q | q
  · exact List.mem_append_left _ (List.mem_take_iff_getElem.2 ⟨j, by omega, rfl⟩)
  · refine List.mem_append_right _ (List.mem_drop_iff_getElem.2 ⟨j - (idxS A.scripts o.name + 1), by omega, ?_⟩)
    congr 1
    omega
theorem choose_good (g : GoodQ A) (h : chooseA A o = .ok r) : GoodQ r.1 ∧ r.1.st = A.st := by
  unfold chooseA at h
  split at h
  · cases h
  rename_i h1
  injection h with h
  subst h
  refine ⟨⟨g.nm, g.nb, g.st, g.bx, g.bid, g.ml, g.asc, fun m hm => (g.fit m hm).mono (Int.le_refl _) (Int.le_refl _) fun _ h => h, g.sl, g.sasc, g.src, g.nl, g.key, g.knd, ?_⟩, rfl⟩
  by_cases e : o.name = []
  · exact .inl e
  · refine .inr ?_
    cases hq : hasS A.scripts o.name with
    | true => rfl
    | false => exact absurd ⟨hq, e⟩ h1
theorem drop256 {α : Type} (l : List α) : (l.drop (l.length - 256)).length ≤ 256 := by rw [List.length_drop]; omega
theorem GoodQ.seens (g : GoodQ A) {l : List Sn} (h1 : l.length ≤ 256) (h2 : ∀ s ∈ l, s.key.length ≤ 1000 ∧ 0 ≤ s.at_ ∧ s.at_ ≤ M40) (h3 : (l.map (·.key)).Nodup) : GoodQ { A with seen := l } :=
  ⟨g.nm, g.nb, g.st, g.bx, g.bid, g.ml, g.asc, fun m hm => (g.fit m hm).mono (Int.le_refl _) (Int.le_refl _) fun _ h => h, g.sl, g.sasc, g.src, h1, h2, h3, g.act⟩
theorem answer_good (g : GoodQ A) (h : answerA A o = .ok r) : GoodQ r.1 ∧ r.1.st = A.st := by
  unfold answerA at h
  by_cases h1 : 1000 < o.name.length ∨ ¬ (0 ≤ o.at_ ∧ o.at_ ≤ 1099511627776)
  · rw [if_pos h1] at h; cases h
  rw [if_neg h1] at h
  have hat : 0 ≤ o.at_ ∧ o.at_ ≤ 1099511627776 := Decidable.byContradiction fun q => h1 (.inr q)
  have hln : o.name.length ≤ 1000 := by have : ¬ 1000 < o.name.length := fun q => h1 (.inl q); omega
  have hsub : ((seenA A.seen o).drop ((seenA A.seen o).length - 256)).Sublist (seenA A.seen o) := List.drop_sublist _ _
  have hlen := drop256 (seenA A.seen o)
  generalize (seenA A.seen o).drop ((seenA A.seen o).length - 256) = L at *
  injection h with h
  subst h
  refine ⟨g.seens hlen (fun s hs => ?_) ?_, rfl⟩
  · have hs := hsub.subset hs
    unfold seenA at hs
    rcases List.mem_append.1 hs with hs | hs
    · exact g.key s (List.mem_filter.1 hs).1
    · rw [List.mem_singleton.1 hs]; exact ⟨hln, hat⟩
  · have hnd : ((seenA A.seen o).map (·.key)).Nodup := by
      unfold seenA
      rw [List.map_append, List.nodup_append]
      refine ⟨g.knd.sublist (List.filter_sublist.map _), by simp, fun a ha b hb e => ?_⟩
      obtain ⟨s, hs, rfl⟩ := List.mem_map.1 ha
      have h2 := (List.mem_filter.1 hs).2
      have hb : b = o.name := by simpa using hb
      subst hb
      simp [e] at h2
    exact hnd.sublist (hsub.map _)
theorem one_good (g : GoodQ A) (h : oneA A o = .ok r) : GoodQ r.1 ∧ r.1.st = A.st := by
  unfold oneA at h
  by_cases k1 : o.kind = 1
  · rw [if_pos k1] at h; exact mail_good g h
  rw [if_neg k1] at h
  by_cases k2 : o.kind = 2
  · rw [if_pos k2] at h; exact flag_good g h
  rw [if_neg k2] at h
  by_cases k3 : o.kind = 3
  · rw [if_pos k3] at h; exact move_good g h
  rw [if_neg k3] at h
  by_cases k4 : o.kind = 4
  · rw [if_pos k4] at h; exact destroy_good g h
  rw [if_neg k4] at h
  by_cases k5 : o.kind = 5
  · rw [if_pos k5] at h; exact add_good g h
  rw [if_neg k5] at h
  by_cases k6 : o.kind = 6
  · rw [if_pos k6] at h; exact name_good g h
  rw [if_neg k6] at h
  by_cases k7 : o.kind = 7
  · rw [if_pos k7] at h; exact hang_good g h
  rw [if_neg k7] at h
  by_cases k8 : o.kind = 8
  · rw [if_pos k8] at h; exact drop_good g h
  rw [if_neg k8] at h
  by_cases k9 : o.kind = 9
  · rw [if_pos k9] at h; exact set_good g h
  rw [if_neg k9] at h
  by_cases k10 : o.kind = 10
  · rw [if_pos k10] at h; exact unset_good g h
  rw [if_neg k10] at h
  by_cases k11 : o.kind = 11
  · rw [if_pos k11] at h; exact choose_good g h
  rw [if_neg k11] at h
  by_cases k12 : o.kind = 12
  · rw [if_pos k12] at h; exact answer_good g h
  rw [if_neg k12] at h
  cases h
theorem next_good (g : GoodP A) : GoodQ (nextA A) := by
  have := g.st
  exact ⟨g.nm, g.nb, by show 0 ≤ A.st + 1; omega, g.bx, g.bid, g.ml, g.asc, fun m hm => (g.fit m hm).mono (Int.le_refl _) (by show A.st ≤ A.st + 1; omega) fun _ h => h, g.sl, g.sasc, g.src, g.nl, g.key, g.knd, g.act⟩
/-- Apply keeps an account right. -/
theorem good_apply (g : GoodP A) (o : Opr) : GoodP (applyA A o).1 := by
  unfold applyA
  cases h : oneA (nextA A) o with
  | error c => exact g
  | ok r =>
    dsimp only
    have h1 := one_good (next_good g) h
    by_cases h2 : 1099511627776 < r.1.st
    · rw [if_pos h2]; exact g
    · rw [if_neg h2]; exact ⟨h1.1, by show r.1.st ≤ M40; unfold M40; omega⟩
/-- What a successful Apply does to State; a failed one changes nothing. -/
theorem apply_st (g : GoodP A) (o : Opr) : (applyA A o).2.2 = 0 ∧ (applyA A o).1.st = A.st + 1 ∧ (∃ n, oneA (nextA A) o = .ok ((applyA A o).1, n) ∧ (applyA A o).2.1 = n) ∨ (applyA A o).2.2 ≠ 0 ∧ (applyA A o).1 = A ∧ (applyA A o).2.1 = 0 := by
  unfold applyA
  cases h : oneA (nextA A) o with
  | error c => exact .inr ⟨one_err h, rfl, rfl⟩
  | ok r =>
    dsimp only
    have h1 := one_good (next_good g) h
    by_cases h2 : 1099511627776 < r.1.st
    · rw [if_pos h2]; exact .inr ⟨by simp, rfl, rfl⟩
    · rw [if_neg h2]; exact .inl ⟨rfl, h1.2, r.2, rfl, rfl⟩
end
end Go.Cs

-- alias Tryz
namespace Go.Proofs.YtohhkegmbgancaaGreatDoor
open Go.Shelf Go.RowKit Go.Pw Go.Vc Go.Cs Go.Lib
set_option linter.unusedVariables false
set_option maxRecDepth 100000
theorem nodup_len : ∀ (l m : List Int), l.Nodup → (∀ x ∈ l, x ∈ m) → l.length ≤ m.length
  | [], m, _, _ => Nat.zero_le _
  | a :: r, m, h, hs => by
    rw [List.nodup_cons] at h
    have := nodup_len r (m.erase a) h.2 fun x hx => (List.mem_erase_of_ne (fun (e : x = a) => h.1 (e ▸ hx))).2 (hs x (List.mem_cons_of_mem _ hx))
    rw [List.length_erase_of_mem (hs a (by simp))] at this
    have := List.length_pos_of_mem (hs a (by simp))
    rw [List.length_cons]; omega
theorem good_fit {A : Acc} (g : GoodQ A) (hs : A.st ≤ 1099511627777) : Fit A := by
  have h1 := g.bx.len
  refine ⟨by omega, fun b hb => ⟨?_, ?_⟩, by have := g.ml; omega, fun m hm => ⟨?_, by have := (g.fit m hm).fl; omega⟩, fun m hm f hf => ?_, by have := g.sl; omega, fun s hs => ?_, by have := g.nl; omega, ⟨g.st, by omega⟩, by have := g.nm; unfold M40 at this; omega, by have := g.nb; unfold M40 at this; omega⟩
  · have := ((named_iff _).1 (g.bx.named b hb)).2.1; omega
  · have h : ∀ r ∈ rolesL, r.length ≤ 1000000 := by decide
    exact h _ (g.bx.roles b hb)
  · have f := g.fit m hm
    have := nodup_len m.boxes (A.boxes.map (·.id)) (asc_nodup f.asc) fun x hx => by
      obtain ⟨b, hb, e⟩ := (hasId_iff _ _).1 (f.there x hx)
      exact e ▸ List.mem_map_of_mem hb
    rw [List.length_map] at this
    omega
  · have := (g.fit m hm).fok f hf
    unfold flagB at this
    rw [Bool.and_eq_true, decide_eq_true_eq] at this
    omega
  · have := g.src s hs
    unfold srcB scB at this
    rw [Bool.and_eq_true, Bool.and_eq_true, decide_eq_true_eq, decide_eq_true_eq] at this
    omega
theorem newB_eq : addL [] 0 inboxN inB 1 = ([⟨1, 0, inboxN, inB⟩], 0) := by decide +kernel
theorem good_new : GoodP newA := by
  have h := (add_iff (l := []) 0 inboxN inB 1).1 (by rw [newB_eq])
  have hb := (back_add h.1 h.2).1
  have he : newA.boxes = [⟨1, 0, inboxN, inB⟩] := by unfold newA newB; rw [newB_eq]
  have hi : insL [] ⟨1, 0, inboxN, inB⟩ = [⟨1, 0, inboxN, inB⟩] := rfl
  rw [hi] at hb
  exact ⟨⟨by decide, by decide, by decide, by rw [he]; exact hb, fun b hb => by rw [he] at hb; rw [List.mem_singleton.1 hb]; decide, by decide, .nil, fun m hm => (by simp [newA] at hm), by decide, .nil, fun s hs => (by simp [newA] at hs), by decide, fun s hs => (by simp [newA] at hs), by simp [newA], .inl rfl⟩, by decide⟩
end Go.Proofs.YtohhkegmbgancaaGreatDoor
