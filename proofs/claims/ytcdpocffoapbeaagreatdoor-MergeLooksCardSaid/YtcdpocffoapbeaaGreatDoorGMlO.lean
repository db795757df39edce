/- Helper text of this claim: MlO, Mn0, Mn1: lemmas and contracts that the proved statement rests on; no conditions of its own. -/
import Derived.Test.YtcdpocffoapbeaaGreatDoorGMapR
import Derived.Test.YtcdpocffoapbeaaGreatDoorGOpn
import Derived.Test.YtcdpocffoapbeaaGreatDoorGMl2
-- alias Tryz
namespace Go.Proofs.YtcdpocffoapbeaaGreatDoor
set_option linter.unusedVariables false
open Go.Shelf Go.RowKit Go.Pw Go.Vc Go.Cs Go.Lib Go.Mg
set_option linter.unusedVariables false
set_option maxRecDepth 100000
/-! The arguments of law 35, opened. -/
theorem opens_capM {W : World} {T E : TypeId} {α : Type} {p : Value × α → Prop} (hT : Tryz.prog.underlying T = some (.slice E)) (h : Opens Tryz.prog W T (fun y : Value × α => [y.1]) p) : Opens Tryz.prog W T (fun y : Value × α => [y.1]) (fun y => p y ∧ CapK y.1) := fun {H enc fuel cs x} hf hsz => by
  obtain ⟨y, hcs, hp⟩ := h hf hsz
  refine ⟨y, hcs, hp, ?_⟩
  rcases DataW.trod_slice hT hf with ⟨h, _⟩ | ⟨x0, len, cap, _, _, n, _, h, _, _, hl, _⟩
  · rw [hcs] at h
    injection h with h
    intro a n c e
    rw [h] at e
    injection e with _ e1 e2
    omega
  · rw [hcs] at h
    injection h with h
    intro a n c e
    rw [h] at e
    injection e with _ e1 e2
    omega
abbrev mcI : Int → List Value := fun z => [Value.int .i64 z]
abbrev mpI : Int → Prop := fun z => -9223372036854775808 ≤ z ∧ z ≤ 9223372036854775807
abbrev mcT : List UInt8 → List Value := fun z => [.string (str z)]
abbrev mpT : List UInt8 → Prop := fun z => z.length ≤ 140737488355328
abbrev mcV {α : Type} : Value × α → List Value := fun y => [y.1]
theorem opens_strM {W : World} : Opens Tryz.prog W 9 mcT mpT := @Opens.imp _ _ _ _ _ _ _ _ _ (@opens_string _ W _ Tryz.underlying9) L (fun s => by show [Value.string s] = [Value.string (str (L s))]; rw [str_L]) (fun s h => by show (L s).length ≤ _; rw [show (L s).length = s.size from by rw [← str_size, str_L]]; exact h)
abbrev mpN : Unit → Prop := fun _ => True
abbrev mcN : Unit → List Value := fun _ => []
abbrev mc3 : List UInt8 × Unit → List Value := fun y => mcT y.1 ++ mcN y.2
abbrev mp3 : List UInt8 × Unit → Prop := fun y => mpT y.1 ∧ mpN y.2
abbrev mc2 : List UInt8 × List UInt8 × Unit → List Value := fun y => mcT y.1 ++ mc3 y.2
abbrev mp2 : List UInt8 × List UInt8 × Unit → Prop := fun y => mpT y.1 ∧ mp3 y.2
abbrev mc1 : Int × List UInt8 × List UInt8 × Unit → List Value := fun y => mcI y.1 ++ mc2 y.2
abbrev mp1 : Int × List UInt8 × List UInt8 × Unit → Prop := fun y => mpI y.1 ∧ mp2 y.2
/-- Texts no longer than memory reaches. -/
def TmR (t : Trm) : Prop := mpI t.field ∧ t.word.length ≤ 140737488355328 ∧ t.list.length ≤ 140737488355328
theorem opens_Tm {W : World} : Opens Tryz.prog W 56 tmC TmR := by
  refine @Opens.imp _ _ _ _ _ mc1 mp1 _ _ (@opens_struct _ _ _ _ 3 (Int × List UInt8 × List UInt8 × Unit) mc1 mp1 Tryz.underlying56 (by kernel_rfl) ?h) (fun y => (⟨y.1, y.2.1, y.2.2.1⟩ : Trm)) (fun _ => rfl) (fun y h => ⟨h.1, h.2.1, h.2.2.1⟩)
  refine @opens_cons _ _ _ _ _ _ 1 _ _ mcI mpI mc2 mp2 rfl ?_ ?_ ?_
  · kernel_rfl
  · exact @opens_int _ _ _ Tryz.underlying3
  refine @opens_cons _ _ _ _ _ _ 1 _ _ mcT mpT mc3 mp3 rfl ?_ ?_ ?_
  · kernel_rfl
  · exact opens_strM
  refine @opens_cons _ _ _ _ _ _ 1 _ _ mcT mpT mcN mpN rfl ?_ ?_ ?_
  · kernel_rfl
  · exact opens_strM
  exact @opens_nil _ _ _
def EnR (e : Ent) : Prop := mpI e.doc ∧ mpI e.field ∧ e.text.length ≤ 140737488355328
abbrev me2 : Int × List UInt8 × Unit → List Value := fun y => mcI y.1 ++ mc3 y.2
abbrev mq2 : Int × List UInt8 × Unit → Prop := fun y => mpI y.1 ∧ mp3 y.2
abbrev me1 : Int × Int × List UInt8 × Unit → List Value := fun y => mcI y.1 ++ me2 y.2
abbrev mq1 : Int × Int × List UInt8 × Unit → Prop := fun y => mpI y.1 ∧ mq2 y.2
theorem opens_En {W : World} : Opens Tryz.prog W 41 enC EnR := by
  refine @Opens.imp _ _ _ _ _ me1 mq1 _ _ (@opens_struct _ _ _ _ 3 (Int × Int × List UInt8 × Unit) me1 mq1 Tryz.underlying41 (by kernel_rfl) ?h) (fun y => (⟨y.1, y.2.1, y.2.2.1⟩ : Ent)) (fun _ => rfl) (fun y h => ⟨h.1, h.2.1, h.2.2.1⟩)
  refine @opens_cons _ _ _ _ _ _ 1 _ _ mcI mpI me2 mq2 rfl ?_ ?_ ?_
  · kernel_rfl
  · exact @opens_int _ _ _ Tryz.underlying3
  refine @opens_cons _ _ _ _ _ _ 1 _ _ mcI mpI mc3 mp3 rfl ?_ ?_ ?_
  · kernel_rfl
  · exact @opens_int _ _ _ Tryz.underlying3
  refine @opens_cons _ _ _ _ _ _ 1 _ _ mcT mpT mcN mpN rfl ?_ ?_ ?_
  · kernel_rfl
  · exact opens_strM
  exact @opens_nil _ _ _
instance : Inhabited Ent := ⟨⟨0, 0, []⟩⟩
abbrev mpTs (W : World) : Value × List Trm → Prop := fun y => (RowO W y.1 tmC y.2 ∧ y.2.length * 40 ≤ 140737488351232 ∧ ∀ z ∈ y.2, TmR z) ∧ CapK y.1
theorem opens_Tms {W : World} : Opens Tryz.prog W 29 mcV (mpTs W) := opens_capM Tryz.underlying29
  (@opens_slice Tryz.prog W 29 _ Trm _ _ _ 3 40 Tryz.underlying29 (@opens_Tm W) (fun _ => rfl) (by decide) (by kernel_rfl) (by kernel_rfl) (by decide))
abbrev mpEs (W : World) : Value × List Ent → Prop := fun y => (RowO W y.1 enC y.2 ∧ y.2.length * 32 ≤ 140737488351232 ∧ ∀ z ∈ y.2, EnR z) ∧ CapK y.1
theorem opens_Ens {W : World} : Opens Tryz.prog W 36 mcV (mpEs W) := opens_capM Tryz.underlying36
  (@opens_slice Tryz.prog W 36 _ Ent _ _ _ 3 32 Tryz.underlying36 (@opens_En W) (fun _ => rfl) (by decide) (by kernel_rfl) (by kernel_rfl) (by decide))
abbrev mpIs (W : World) : Value × List Int → Prop := fun y => (RowO W y.1 mcI y.2 ∧ y.2.length * 8 ≤ 140737488351232 ∧ ∀ z ∈ y.2, mpI z) ∧ CapK y.1
theorem opens_Is {W : World} : Opens Tryz.prog W 23 mcV (mpIs W) := opens_capM Tryz.underlying23
  (@opens_slice Tryz.prog W 23 _ Int _ _ _ 1 8 Tryz.underlying23 (@opens_int _ _ _ Tryz.underlying3) (fun _ => rfl) (by decide) (by kernel_rfl) (by kernel_rfl) (by decide))
def slM : Value → Sl
  | .slice a n c => ⟨a, n, c⟩
  | _ => ⟨none, 0, 0⟩
theorem slM_of {α : Type} {W : World} {v : Value} {c : α → List Value} {l : List α} (h : RowO W v c l) : v = (slM v).v := by
  obtain ⟨a, cap, rfl, _⟩ := h
  rfl
/-- A segment that came in. -/
def SgR (W : World) (x : Sv × Sgm) : Prop := RdS W x.1 x.2 ∧ (∀ t ∈ x.2.terms, TmR t) ∧ x.2.terms.length ≤ 3518437208780 ∧ x.2.docs.length ≤ 17592186043904 ∧ ∀ d ∈ x.2.docs, mpI d
abbrev ms2 (W : World) : (Value × List Int) × Unit → Prop := fun y => mpIs W y.1 ∧ mpN y.2
abbrev mz2 : (Value × List Int) × Unit → List Value := fun y => mcV y.1 ++ mcN y.2
abbrev ms1 (W : World) : (Value × List Trm) × (Value × List Int) × Unit → Prop := fun y => mpTs W y.1 ∧ ms2 W y.2
abbrev mz1 : (Value × List Trm) × (Value × List Int) × Unit → List Value := fun y => mcV y.1 ++ mz2 y.2
theorem opens_Sg {W : World} : Opens Tryz.prog W 31 (fun p : Sv × Sgm => sgC p.1) (SgR W) := by
  refine @Opens.impP _ _ _ _ _ mz1 (ms1 W) _ _ (@opens_struct _ _ _ _ 2 ((Value × List Trm) × (Value × List Int) × Unit) mz1 (ms1 W) Tryz.underlying31 (by kernel_rfl) ?h) (fun y => ((⟨slM y.1.1, slM y.2.1.1⟩ : Sv), (⟨y.1.2, y.2.1.2⟩ : Sgm))) (fun y h => ?_) (fun y h => ?_)
  · refine @opens_cons _ _ _ _ _ _ 1 _ _ mcV (mpTs W) mz2 (ms2 W) rfl ?_ ?_ ?_
    · kernel_rfl
    · exact opens_Tms
    refine @opens_cons _ _ _ _ _ _ 1 _ _ mcV (mpIs W) mcN mpN rfl ?_ ?_ ?_
    · kernel_rfl
    · exact opens_Is
    exact @opens_nil _ _ _
  · have e1 := slM_of h.1.1.1
    have e2 := slM_of h.2.1.1.1
    show [y.1.1] ++ ([y.2.1.1] ++ []) = [(slM y.1.1).v, (slM y.2.1.1).v]
    rw [← e1, ← e2]; rfl
  · have e1 := slM_of h.1.1.1
    have e2 := slM_of h.2.1.1.1
    refine ⟨⟨?_, ?_, ?_, ?_⟩, h.1.1.2.2, by have := h.1.1.2.1; dsimp only; omega, by have := h.2.1.1.2.1; dsimp only; omega, h.2.1.1.2.2⟩
    · show RowO W (slM y.1.1).v tmC _
      rw [← e1]; exact h.1.1.1
    · show RowO W (slM y.2.1.1).v mcI _
      rw [← e2]; exact h.2.1.1.1
    · show CapK (slM y.1.1).v
      rw [← e1]; exact h.1.2
    · show CapK (slM y.2.1.1).v
      rw [← e2]; exact h.2.1.2
instance : Inhabited (Sv × Sgm) := ⟨(default, ⟨[], []⟩)⟩
section
variable {W : World} {H : Type} {enc : TypeId × Value → H} {v : Value} {d : DataW H} {ps : List MemPlace}
theorem seg_of (ht : DataW.Trod enc Tryz.prog W 0 (fun _ => true) true 31 v d ps) (hs : ∃ a : Array Value, v = .agg a) (hsz : ∀ n ∈ d.weights Tryz.prog 31, n ≤ reachBytes) : ∃ x : Sv × Sgm, v = .agg (sgC x.1).toArray ∧ SgR W x := by
  obtain ⟨a, rfl⟩ := hs
  obtain ⟨x, e, h⟩ := opens_param (@opens_Sg W) ht hsz
  exact ⟨x, by rw [← e]; simp [Value.cells], h⟩
theorem ents_of (hs : v.cells.toList = [v]) (ht : DataW.Trod enc Tryz.prog W 0 (fun _ => true) true 36 v d ps) (hsz : ∀ n ∈ d.weights Tryz.prog 36, n ≤ reachBytes) : ∃ l : List Ent, RowO W v enC l ∧ (∀ e ∈ l, EnR e) ∧ l.length * 32 ≤ 140737488351232 ∧ CapK v := by
  obtain ⟨⟨v1, l⟩, e, ⟨h1, h2, h3⟩, h4⟩ := opens_param (@opens_Ens W) ht hsz
  rw [hs] at e
  obtain rfl : v = v1 := by simpa using e
  exact ⟨l, h1, h3, h2, h4⟩
theorem ints_of (hs : v.cells.toList = [v]) (ht : DataW.Trod enc Tryz.prog W 0 (fun _ => true) true 23 v d ps) (hsz : ∀ n ∈ d.weights Tryz.prog 23, n ≤ reachBytes) : ∃ l : List Int, RowI W v l ∧ (∀ z ∈ l, mpI z) ∧ l.length * 8 ≤ 140737488351232 ∧ CapK v := by
  obtain ⟨⟨v1, l⟩, e, ⟨h1, h2, h3⟩, h4⟩ := opens_param (@opens_Is W) ht hsz
  rw [hs] at e
  obtain rfl : v = v1 := by simpa using e
  exact ⟨l, h1, h3, h2, h4⟩
end
end Go.Proofs.YtcdpocffoapbeaaGreatDoor

-- alias Tryz
namespace Go.Proofs.YtcdpocffoapbeaaGreatDoor
set_option linter.unusedVariables false
open Go.Shelf Go.RowKit Go.Pw Go.Vc Go.Cs Go.Lib Go.Cd Go.Mg
set_option linter.unusedVariables false
set_option maxRecDepth 100000
/-! Law 35: little, few, entries, shared. -/
structure Little (s : Sgm) : Prop where
  d : s.docs.length ≤ 50
  t : s.terms.length ≤ 80
  x : ∀ t ∈ s.terms, t.word.length + t.list.length ≤ 3000
section
variable {w : World}
theorem lw_little (x : Sv × Sgm) (hx : SgR w x) : Calls Tryz.prog 27 #[.agg (sgC x.1).toArray] w fun e w' => (∃ q, e = .returned (.bool q) ∧ (q = true → Little x.2)) ∧ Keeps w w' none_ := by
  obtain ⟨h, s⟩ := x
  obtain ⟨hr, htm, htl, hdl, _⟩ := hx
  dsimp only at hr htm htl hdl ⊢
  have hn1 := RowO.len hr.t
  have hn2 := RowO.len hr.d
  obtain ⟨at_, ct, et, hrt⟩ := hr.t
  obtain ⟨ad, cd, ed, hrd⟩ := hr.d
  obtain ⟨⟨ta, tn, tc⟩, ⟨da, dn, dc⟩⟩ := h
  injection et with q1 q2 q3
  injection ed with q4 q5 q6
  dsimp only at q1 q2 q3 q4 q5 q6
  subst q1 q2 q3 q4 q5 q6
  clear hn1 hn2 hr hrd
  refine calls_of_vc (args := [.agg (sgC ⟨⟨ta, s.terms.length, tc⟩, ⟨da, s.docs.length, dc⟩⟩).toArray]) Tryz.func27 rfl (Nat.le_of_ble_eq_true rfl) ?_; refine Sat.go hmix ?_; conv => whnf
  have a_b1 := at_fresh w 31 (sgC ⟨⟨ta, s.terms.length, tc⟩, ⟨da, s.docs.length, dc⟩⟩)
  have v_b1 := VarK.new w 31 (sgC ⟨⟨ta, s.terms.length, tc⟩, ⟨da, s.docs.length, dc⟩⟩)
  have k_w1 : Keeps w (w.alloc (.cells (List.toArray (sgC ⟨⟨ta, s.terms.length, tc⟩, ⟨da, s.docs.length, dc⟩⟩)) 31)) none_ := (Keeps.refl _ _).alloc _
  have z_w1 : (w.alloc (.cells (List.toArray (sgC ⟨⟨ta, s.terms.length, tc⟩, ⟨da, s.docs.length, dc⟩⟩)) 31)).heap.size = w.heap.size + 1 := by simp
  generalize w.alloc (.cells (List.toArray (sgC ⟨⟨ta, s.terms.length, tc⟩, ⟨da, s.docs.length, dc⟩⟩)) 31) = w1 at *
  generalize hs_b1 : w.heap.size = b1 at *
  have r_w1 : Keeps w1 w1 none_ := Keeps.refl _ _
  unfold sgC at a_b1
  dsimp only at a_b1
  refine KGO ?_
  refine Loop.intro (ι := Nat × Nat) (fun i => [(1, .pointer (some ⟨b1, 0, none⟩)), (3, .int .i64 (i.2 : Nat)), (4, .int .i64 (i.1 : Nat))])
    (fun i wr => Keeps w1 wr none_ ∧ i.1 ≤ s.terms.length ∧ i.1 ≤ 100 ∧ i.2 ≤ i.1 * 281474976710656 ∧ ∀ t ∈ s.terms.take i.1, t.word.length + t.list.length ≤ i.2) (fun i => 100 - i.1) (0, 0) ⟨rfl, rfl, rfl, trivial⟩ ⟨Keeps.refl _ _, Nat.zero_le _, Nat.zero_le _, Nat.zero_le _, by simp⟩ ?_
  rintro ⟨i, n⟩ gg wr ⟨hK, hi, hi1, hn, hall⟩
  dsimp only at hi hi1 hn hall ⊢
  have hKw := k_w1.trans0 hK
  have qr := Keeps.refl wr none_
  clear r_w1
  (first | refine Then.go hmix ?_ | refine Sat.go hmix ?_ | refine ResK.go ?_ | skip); conv => whnf
  have hfin : (s.terms.length ≤ i ∨ 100 ≤ i) → s.docs.length ≤ 50 → s.terms.length ≤ 80 → n ≤ 3000 → Little s := fun h1 h2 h3 h4 => ⟨h2, h3, fun t ht => Nat.le_trans (hall t (by rw [List.take_of_length_le (by omega)]; exact ht)) h4⟩
  by_cases hlt : i < s.terms.length ∧ i < 100
  · obtain ⟨hlt, hlt2⟩ := hlt
    clear hfin
    obtain ⟨g, o, rfl, hg, hat⟩ := hrt (by omega)
    have ht := htm _ (List.getElem_mem hlt)
    have ht1 := ht.2.1
    have ht2 := ht.2.2
    have hs1 : (str s.terms[i].word).size = s.terms[i].word.length := rfl
    have hs2 : (str s.terms[i].list).size = s.terms[i].list.length := rfl
    refine KGO ?_
    refine ⟨(i + 1, n + s.terms[i].word.length + s.terms[i].list.length), ⟨rfl, v_int (by dsimp only; rw [hs1, hs2]; omega), v_int (by simp), trivial⟩, ⟨hK.drew, by omega, by dsimp only; omega, by dsimp only; omega, fun t h => ?_⟩, by dsimp only; omega⟩
    rw [List.take_succ_eq_append_getElem hlt, List.mem_append, List.mem_singleton] at h
    rcases h with h | rfl
    · have := hall t h; dsimp only; omega
    · dsimp only; omega
  · rcases Nat.lt_or_ge i s.terms.length with hlt3 | hge
    · have h100 : 100 ≤ i := by omega
      have h80 : ¬ s.terms.length ≤ 80 := by omega
      clear hfin hall hlt
      by_cases h1 : s.docs.length ≤ 50
      · refine KGO ?_
        exact ⟨⟨_, rfl, fun h => by cases h⟩, hKw⟩
      · refine KGO ?_
        exact ⟨⟨_, rfl, fun h => by cases h⟩, hKw⟩
    · have hfin := hfin (.inl hge)
      clear hall hlt
      by_cases h1 : s.docs.length ≤ 50
      · have hfin := hfin h1
        by_cases h2 : s.terms.length ≤ 80
        · have hfin := hfin h2
          refine KGO ?_
          exact ⟨⟨_, rfl, fun h => hfin (by have := of_decide_eq_true h; omega)⟩, hKw⟩
        · clear hfin
          refine KGO ?_
          exact ⟨⟨_, rfl, fun h => by cases h⟩, hKw⟩
      · clear hfin
        refine KGO ?_
        exact ⟨⟨_, rfl, fun h => by cases h⟩, hKw⟩
theorem SgR.keep {W W' : World} {x : Sv × Sgm} (h : SgR W x) (k : Keeps W W' none_) : SgR W' x := ⟨h.1.keep k, h.2⟩
theorem lw_few35 {vl vd : Value} (l : List (Sv × Sgm)) (dead : List Int) (hl : RowO w vl (fun p : Sv × Sgm => sgC p.1) l) (hx : ∀ p ∈ l, SgR w p) (hll : l.length ≤ 1000000000000) (hd : RowI w vd dead) (hdl : dead.length ≤ 1000000000000000) :
    Calls Tryz.prog 9 #[vl, vd] w fun e w' => (∃ q, e = .returned (.bool q) ∧ (q = true → l.length ≤ 5 ∧ dead.length ≤ 50 ∧ ∀ p ∈ l, Little p.2)) ∧ Keeps w w' none_ := by
  obtain ⟨a, c, rfl, hra⟩ := hl
  obtain ⟨ad, cd, rfl, hrd⟩ := hd
  refine calls_of_vc (args := [.slice a l.length c, .slice ad dead.length cd]) Tryz.func9 rfl (Nat.le_of_ble_eq_true rfl) ?_; refine Sat.go hmix ?_; conv => whnf
  refine KGO ?_
  refine Loop.intro (ι := Nat) (fun i => [(0, .slice a l.length c), (1, .slice ad dead.length cd), (5, .int .i64 (i : Nat))])
    (fun i wr => Keeps w wr none_ ∧ i ≤ l.length ∧ ∀ p ∈ l.take i, Little p.2) (fun i => l.length - i) 0 ⟨rfl, rfl, rfl, trivial⟩ ⟨Keeps.refl _ _, Nat.zero_le _, by simp⟩ ?_
  rintro i gg wr ⟨hK, hi, hall⟩
  (first | refine Then.go hmix ?_ | refine Sat.go hmix ?_ | refine ResK.go ?_ | skip); conv => whnf
  by_cases hlt : i < l.length
  · obtain ⟨g, o, rfl, hg, hat⟩ := hra (by omega)
    refine KGO ?_
    refine CallS.of (Tryz.call27 _ _) (lw_little (w := wr) l[i] ((hx _ (List.getElem_mem hlt)).keep hK)) ?_
    rintro e w2 ⟨⟨q, rfl, hq⟩, k2⟩
    refine ⟨_, rfl, ?_⟩; (first | refine Then.go hmix ?_ | refine Sat.go hmix ?_ | refine ResK.go ?_ | skip); conv => whnf
    cases q with
    | false =>
      refine KGO ?_
      exact ⟨⟨false, rfl, fun h => by cases h⟩, hK.trans0 k2⟩
    | true =>
      have hq := hq rfl
      refine KGO ?_
      refine ⟨i + 1, ⟨rfl, rfl, v_int (by simp), trivial⟩, ⟨hK.trans0 k2, by omega, fun p hp => ?_⟩, by dsimp only; omega⟩
      rw [List.take_succ_eq_append_getElem hlt, List.mem_append, List.mem_singleton] at hp
      rcases hp with hp | rfl
      · exact hall p hp
      · exact hq
  · rw [List.take_of_length_le (by omega)] at hall
    by_cases h1 : l.length ≤ 5
    · have hfin : dead.length ≤ 50 → l.length ≤ 5 ∧ dead.length ≤ 50 ∧ ∀ p ∈ l, Little p.2 := fun h2 => ⟨h1, h2, hall⟩
      clear hall
      refine KGO ?_
      exact ⟨⟨_, rfl, fun h => hfin (by have := of_decide_eq_true h; omega)⟩, hK⟩
    · clear hall
      refine KGO ?_
      exact ⟨⟨_, rfl, fun h => by cases h⟩, hK⟩
theorem lw_entries {v : Value} (l : List Ent) (hl : RowO w v enC l) (hx : ∀ e ∈ l, EnR e) (hll : l.length ≤ 100000000000000) :
    Calls Tryz.prog 17 #[v] w fun e w' => (∃ q, e = .returned (.bool q) ∧ (q = true → l.length ≤ 15 ∧ ∀ e ∈ l, e.text.length ≤ 100)) ∧ Keeps w w' none_ := by
  obtain ⟨a, c, rfl, hra⟩ := hl
  refine calls_of_vc (args := [.slice a l.length c]) Tryz.func17 rfl (Nat.le_of_ble_eq_true rfl) ?_; refine Sat.go hmix ?_; conv => whnf
  refine KGO ?_
  refine Loop.intro (ι := Nat) (fun i => [(0, .slice a l.length c), (3, .int .i64 (i : Nat))])
    (fun i wr => Keeps w wr none_ ∧ i ≤ l.length ∧ ∀ e ∈ l.take i, e.text.length ≤ 100) (fun i => l.length - i) 0 ⟨rfl, rfl, trivial⟩ ⟨Keeps.refl _ _, Nat.zero_le _, by simp⟩ ?_
  rintro i gg wr ⟨hK, hi, hall⟩
  (first | refine Then.go hmix ?_ | refine Sat.go hmix ?_ | refine ResK.go ?_ | skip); conv => whnf
  by_cases hlt : i < l.length
  · obtain ⟨g, o, rfl, hg, hat⟩ := hra (by omega)
    have ht := (hx _ (List.getElem_mem hlt)).2.2
    have hs1 : (str l[i].text).size = l[i].text.length := rfl
    by_cases h1 : 100 < l[i].text.length
    · refine KGO ?_
      exact ⟨⟨false, rfl, fun h => by cases h⟩, hK⟩
    · refine KGO ?_
      refine ⟨i + 1, ⟨rfl, v_int (by simp), trivial⟩, ⟨hK, by omega, fun p hp => ?_⟩, by dsimp only; omega⟩
      rw [List.take_succ_eq_append_getElem hlt, List.mem_append, List.mem_singleton] at hp
      rcases hp with hp | rfl
      · exact hall p hp
      · omega
  · rw [List.take_of_length_le (by omega)] at hall
    have hfin : l.length ≤ 15 → l.length ≤ 15 ∧ ∀ e ∈ l, e.text.length ≤ 100 := fun h1 => ⟨h1, hall⟩
    clear hall
    refine KGO ?_
    exact ⟨⟨_, rfl, fun h => hfin (by have := of_decide_eq_true h; omega)⟩, hK⟩
theorem shared_take {a b : List Ent} {i k : Nat} (hi : i < a.length) (hk : k < b.length) (h : sharedE (a.take i) b = false) (h2 : sharedE [a[i]] (b.take k) = false) (hs : sharedE [a[i]] [b[k]] = true) : sharedE a b = true := by
  unfold sharedE at *
  rw [List.any_eq_true]
  simp only [List.any_cons, List.any_nil, Bool.or_false] at hs
  exact ⟨a[i], List.getElem_mem hi, List.any_eq_true.2 ⟨b[k], List.getElem_mem hk, hs⟩⟩
theorem lw_shared {va vb : Value} (a b : List Ent) (ha : RowO w va enC a) (hb : RowO w vb enC b) (hla : a.length ≤ 1000000) (hlb : b.length ≤ 1000000) :
    Calls Tryz.prog 18 #[va, vb] w fun e w' => e = .returned (.bool (sharedE a b)) ∧ Keeps w w' none_ := by
  obtain ⟨aa, ca, rfl, hra⟩ := ha
  obtain ⟨ab, cb, rfl, hrb⟩ := hb
  refine calls_of_vc (args := [.slice aa a.length ca, .slice ab b.length cb]) Tryz.func18 rfl (Nat.le_of_ble_eq_true rfl) ?_; refine Sat.go hmix ?_; conv => whnf
  refine KGO ?_
  refine Loop.intro (ι := Nat) (fun i => [(0, .slice aa a.length ca), (1, .slice ab b.length cb), (5, .int .i64 (i : Nat))])
    (fun i wr => Keeps w wr none_ ∧ i ≤ a.length ∧ sharedE (a.take i) b = false) (fun i => a.length - i) 0 ⟨rfl, rfl, rfl, trivial⟩ ⟨Keeps.refl _ _, Nat.zero_le _, by simp [sharedE]⟩ ?_
  rintro i gg wr ⟨hK, hi, hno⟩
  (first | refine Then.go hmix ?_ | refine Sat.go hmix ?_ | refine ResK.go ?_ | skip); conv => whnf
  by_cases hlt : i < a.length
  rotate_left
  · rw [List.take_of_length_le (by omega)] at hno
    refine KGO ?_
    exact ⟨by rw [hno], hK⟩
  refine KGO ?_
  refine Loop.intro (ι := Nat) (fun k => [(0, .slice aa a.length ca), (1, .slice ab b.length cb), (5, .int .i64 (i : Nat)), (6, .int .i64 (k : Nat))])
    (fun k wr => Keeps w wr none_ ∧ k ≤ b.length ∧ sharedE [a[i]] (b.take k) = false) (fun k => b.length - k) 0 ⟨rfl, rfl, rfl, rfl, trivial⟩ ⟨hK, Nat.zero_le _, by simp [sharedE]⟩ ?_
  rintro k gg2 wq ⟨hK2, hk, hno2⟩
  (first | refine Then.go hmix ?_ | refine Sat.go hmix ?_ | refine ResK.go ?_ | skip); conv => whnf
  by_cases hkt : k < b.length
  rotate_left
  · rw [List.take_of_length_le (by omega)] at hno2
    refine KGO ?_
    refine ⟨i + 1, ⟨rfl, rfl, v_int (by simp), trivial⟩, ⟨hK2, by omega, ?_⟩, by dsimp only; omega⟩
    rw [List.take_succ_eq_append_getElem hlt]
    unfold sharedE at *
    rw [List.any_append, hno, hno2]; rfl
  obtain ⟨g, o, rfl, hg, hat⟩ := hra (by omega)
  obtain ⟨g2, o2, rfl, hg2, hat2⟩ := hrb (by omega)
  have hone : sharedE [a[i]] [b[k]] = (decide (a[i].doc = b[k].doc) && decide (a[i].field = b[k].field)) := by simp [sharedE]
  have qq := Keeps.refl wq none_
  have hnext : sharedE [a[i]] [b[k]] = false → sharedE [a[i]] (b.take (k + 1)) = false := fun h => by
    rw [List.take_succ_eq_append_getElem hkt]
    unfold sharedE at *
    simp only [List.any_cons, List.any_nil, Bool.or_false, List.any_append] at *
    rw [hno2, h]; rfl
  have hyes : sharedE [a[i]] [b[k]] = true → sharedE a b = true := shared_take hlt hkt hno hno2
  rw [hone] at hnext hyes
  clear hone
  by_cases h1 : a[i].doc = b[k].doc
  · by_cases h2 : a[i].field = b[k].field
    · have hyes := hyes (by rw [decide_eq_true h1, decide_eq_true h2]; rfl)
      clear hnext
      refine KGO ?_
      exact ⟨by rw [hyes], hK2.drew⟩
    · have hnext := hnext (by rw [decide_eq_false h2, Bool.and_false])
      clear hyes
      refine KGO ?_
      exact ⟨k + 1, ⟨rfl, rfl, rfl, v_int (by simp), trivial⟩, ⟨hK2.drew, by omega, hnext⟩, by dsimp only; omega⟩
  · have hnext := hnext (by rw [decide_eq_false h1, Bool.false_and])
    clear hyes
    refine KGO ?_
    exact ⟨k + 1, ⟨rfl, rfl, rfl, v_int (by simp), trivial⟩, ⟨hK2.drew, by omega, hnext⟩, by dsimp only; omega⟩
end
end Go.Proofs.YtcdpocffoapbeaaGreatDoor

-- alias Tryz
namespace Go.Proofs.YtcdpocffoapbeaaGreatDoor
set_option linter.unusedVariables false
open Go.Shelf Go.RowKit Go.Pw Go.Vc Go.Cs Go.Lib Go.Cd Go.Mg
set_option linter.unusedVariables false
/-! Law 35's example, plain. -/
def smA : List Ent := [⟨3, 3, [97, 32, 98]⟩, ⟨5, 3, [98]⟩]
def smB : List Ent := [⟨4, 3, [98, 32, 99]⟩, ⟨5, 4, [120]⟩]
def smW : List Ent := [⟨5, 3, [98]⟩, ⟨4, 3, [98, 32, 99]⟩, ⟨5, 4, [120]⟩]
theorem alls_two (a b : Sgm) (dead : List Int) : allS [b, a] dead = twoS a b dead := by
  refine sem_ext (right_two _ _ _) (right_two _ _ _) (fun d => ?_) (fun k d => ?_)
  · show dS (twoS (twoS ⟨[], []⟩ b dead) a dead) d ↔ _
    simp only [dS_two, iff_false_intro (dS_nil d), false_or]
    by_cases h : d ∈ dead <;> simp [h, or_comm]
  · show pS (twoS (twoS ⟨[], []⟩ b dead) a dead) k d = _
    simp only [pS_two, pS_nil, nil_unI]
    by_cases h : d ∈ dead
    · rw [if_pos h, if_pos h]
    · simp only [h, if_false]
      rw [unI_comm (pS_asc a _ _) (pS_asc b _ _)]
theorem keys_built {s : Sgm} {es : List Ent} (h : Built s es) (k : Ky) : k ∈ s.terms.map Trm.key ↔ ∃ d, placesE es k d ≠ [] := by
  obtain ⟨r1, r2, r3⟩ := rightS_iff.1 h.right
  constructor
  · intro hk
    obtain ⟨t, ht, rfl⟩ := List.mem_map.1 hk
    obtain ⟨ne, _⟩ := okTerm_pl (r2 t ht)
    obtain ⟨p, hp⟩ := List.exists_mem_of_ne_nil _ ne
    have hr := right_plT t
    refine ⟨p.doc, ?_⟩
    rw [← h.posts, posts_mem _ r3 t ht, atD_mem (right_asc hr) hp]
    exact ((right_iff2.1 hr).2 p hp).2.2.1
  · rintro ⟨d, hd⟩
    rw [← h.posts] at hd
    have : postsT s.terms k ≠ [] := fun e => hd (by rw [e]; rfl)
    obtain ⟨t, ht, e, _⟩ := posts_ne this
    exact List.mem_map.2 ⟨t, ht, e⟩
theorem sm_kept : keptE smW = smW := by decide +kernel
theorem sm_w1 : wordsOf [98] = [[98]] := by decide +kernel
theorem sm_w2 : wordsOf [98, 32, 99] = [[98], [99]] := by decide +kernel
theorem sm_w3 : wordsOf [120] = [[120]] := by decide +kernel
theorem sm_docs {s : Sgm} (h : Built s (keptE smW)) : s.docs = [4, 5] := by
  rw [sm_kept] at h
  refine asc_uniq stoI _ _ (rightS_iff.1 h.right).1.1 (by unfold AscB; decide) fun z => (h.docs z).trans ?_
  unfold smW
  simp
  omega
theorem sm_terms {s : Sgm} (h : Built s (keptE smW)) : s.terms.length = 3 := by
  rw [sm_kept] at h
  have e : s.terms.map Trm.key = [(3, [98]), (3, [99]), (4, [120])] := by
    refine asc_uniq stoK _ _ ?_ (by unfold AscB; decide +kernel) fun k => (keys_built h k).trans ?_
    · exact List.pairwise_map.2 (rightS_iff.1 h.right).2.2
    · constructor
      · rintro ⟨d, hd⟩
        obtain ⟨e, he, h1, h2, h3, h4⟩ := places_one (by rw [← sm_kept]; exact kept_kept _) k d hd
        obtain ⟨k1, k2⟩ := k
        dsimp only at h2 h4 ⊢
        unfold smW at he
        simp only [List.mem_cons, List.not_mem_nil, or_false] at he
        rcases he with rfl | rfl | rfl
        · rw [sm_w1] at h4
          rw [List.mem_singleton.1 h4, ← h2]; simp
        · rw [sm_w2] at h4
          rw [← h2]
          rcases List.mem_cons.1 h4 with rfl | h4
          · simp
          · rw [List.mem_singleton.1 h4]; simp
        · rw [sm_w3] at h4
          rw [List.mem_singleton.1 h4, ← h2]; simp
      · intro hk
        simp only [List.mem_cons, List.not_mem_nil, or_false] at hk
        rcases hk with rfl | rfl | rfl
        · exact ⟨5, by decide +kernel⟩
        · exact ⟨4, by decide +kernel⟩
        · exact ⟨5, by decide +kernel⟩
  have := congrArg List.length e
  simpa using this
theorem sm_two {a b s : Sgm} (ha : Built a (keptE smA)) (hb : Built b (keptE smB)) (hs : Built s (keptE smW)) : twoS a b [3] = s :=
  built_law (by decide) ha hb (by rw [show liveE [3] (smA ++ smB) = smW from by decide]; exact hs)
end Go.Proofs.YtcdpocffoapbeaaGreatDoor
