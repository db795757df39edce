/- Helper text of this claim: lemmas and contracts that the proved statement rests on; no conditions of its own. -/
import Derived.Test.YtcdpocffoapbeaaGreatDoorMl7
namespace Go.Proofs.YtcdpocffoapbeaaGreatDoor
set_option linter.unusedVariables false
set_option maxHeartbeats 8000000
open Go.Shelf Go.RowKit Go.Pw Go.Vc Go.Cs Go.Lib Go.Mg
set_option linter.unusedVariables false
set_option maxRecDepth 100000
theorem zgk {W : World} {T E : TypeId} {α : Type} {p : Value × α → Prop} (hT : Tryz.prog.underlying T = some (.slice E)) (h : Opens Tryz.prog W T (fun y : Value × α => [y.1]) p) : Opens Tryz.prog W T (fun y : Value × α => [y.1]) (fun y => p y ∧ CapK y.1) := fun {H enc fuel cs x} hf hsz => by
 obtain ⟨y, hcs, hp⟩ := h hf hsz
 refine ⟨y, hcs, hp, ?_⟩
 rcases DataW.trod_slice hT hf with ⟨h, _⟩ | ⟨x0, len, cap, _, _, n, _, h, _, _, hl, _⟩
 ·rw [hcs] at h
  injection h with h
  intro a n c e
  rw [h] at e
  injection e with _ e1 e2
  omega
 ·rw [hcs] at h
  injection h with h
  intro a n c e
  rw [h] at e
  injection e with _ e1 e2
  omega
abbrev mcI : Int → List Value := fun z => [Value.int .i64 z]
abbrev mpI : Int → Prop := fun z => -9223372036854775808 ≤ z ∧ z ≤ 9223372036854775807
abbrev mcT : List UInt8 → List Value := fun z => [.string (str z)]
abbrev mpT : List UInt8 → Prop := fun z => z.length ≤ 140737488355328
abbrev mcV {α : Type} : Value × α → List Value := fun y => [y.1]
theorem zfJ {W : World} : Opens Tryz.prog W 9 mcT mpT := @Opens.imp _ _ _ _ _ _ _ _ _ (@zhl _ W _ Tryz.underlying9) L (fun s => by show [Value.string s] = [Value.string (str (L s))]; rw [str_L]) (fun s h => by show (L s).length ≤ _; rw [show (L s).length = s.size from by rw [← zcQ, str_L]]; exact h)
abbrev mpN : Unit → Prop := fun _ => True
abbrev mcN : Unit → List Value := fun _ => []
abbrev mc3 : List UInt8 × Unit → List Value := fun y => mcT y.1 ++ mcN y.2
abbrev mp3 : List UInt8 × Unit → Prop := fun y => mpT y.1 ∧ mpN y.2
abbrev mc2 : List UInt8 × List UInt8 × Unit → List Value := fun y => mcT y.1 ++ mc3 y.2
abbrev mp2 : List UInt8 × List UInt8 × Unit → Prop := fun y => mpT y.1 ∧ mp3 y.2
abbrev mc1 : Int × List UInt8 × List UInt8 × Unit → List Value := fun y => mcI y.1 ++ mc2 y.2
abbrev mp1 : Int × List UInt8 × List UInt8 × Unit → Prop := fun y => mpI y.1 ∧ mp2 y.2
def TmR (t : Trm) : Prop := mpI t.field ∧ t.word.length ≤ 140737488355328 ∧ t.list.length ≤ 140737488355328
theorem znT {W : World} : Opens Tryz.prog W 56 tmC TmR := by
 refine @Opens.imp _ _ _ _ _ mc1 mp1 _ _ (@zel _ _ _ _ 3 (Int × List UInt8 × List UInt8 × Unit) mc1 mp1 Tryz.underlying56 (by kernel_rfl) ?h) (fun y => (⟨y.1, y.2.1, y.2.2.1⟩ : Trm)) (fun _ => rfl) (fun y h => ⟨h.1, h.2.1, h.2.2.1⟩)
 refine @zck _ _ _ _ _ _ 1 _ _ mcI mpI mc2 mp2 rfl ?_ ?_ ?_
 ·kernel_rfl
 ·exact @zic _ _ _ Tryz.underlying3
 refine @zck _ _ _ _ _ _ 1 _ _ mcT mpT mc3 mp3 rfl ?_ ?_ ?_
 ·kernel_rfl
 ·exact zfJ
 refine @zck _ _ _ _ _ _ 1 _ _ mcT mpT mcN mpN rfl ?_ ?_ ?_
 ·kernel_rfl
 ·exact zfJ
 exact @zhS _ _ _
instance : Inhabited Ent := ⟨⟨0, 0, []⟩⟩
abbrev mpTs (W : World) : Value × List Trm → Prop := fun y => (RowO W y.1 tmC y.2 ∧ y.2.length * 40 ≤ 140737488351232 ∧ ∀ z ∈ y.2, TmR z) ∧ CapK y.1
theorem zly {W : World} : Opens Tryz.prog W 29 mcV (mpTs W) := zgk Tryz.underlying29
 (@zdf Tryz.prog W 29 _ Trm _ _ _ 3 40 Tryz.underlying29 (@znT W) (fun _ => rfl) (by decide) (by kernel_rfl) (by kernel_rfl) (by decide))
abbrev mpIs (W : World) : Value × List Int → Prop := fun y => (RowO W y.1 mcI y.2 ∧ y.2.length * 8 ≤ 140737488351232 ∧ ∀ z ∈ y.2, mpI z) ∧ CapK y.1
theorem zjo {W : World} : Opens Tryz.prog W 23 mcV (mpIs W) := zgk Tryz.underlying23
 (@zdf Tryz.prog W 23 _ Int _ _ _ 1 8 Tryz.underlying23 (@zic _ _ _ Tryz.underlying3) (fun _ => rfl) (by decide) (by kernel_rfl) (by kernel_rfl) (by decide))
def slM : Value → Sl
 | .slice a n c => ⟨a, n, c⟩
 | _ => ⟨none, 0, 0⟩
theorem zjv {α : Type} {W : World} {v : Value} {c : α → List Value} {l : List α} (h : RowO W v c l) : v = (slM v).v := by
 obtain ⟨a, cap, rfl, _⟩ := h
 rfl
def SgR (W : World) (x : Sv × Sgm) : Prop := RdS W x.1 x.2 ∧ (∀ t ∈ x.2.terms, TmR t) ∧ x.2.terms.length ≤ 3518437208780 ∧ x.2.docs.length ≤ 17592186043904 ∧ ∀ d ∈ x.2.docs, mpI d
abbrev ms2 (W : World) : (Value × List Int) × Unit → Prop := fun y => mpIs W y.1 ∧ mpN y.2
abbrev mz2 : (Value × List Int) × Unit → List Value := fun y => mcV y.1 ++ mcN y.2
abbrev ms1 (W : World) : (Value × List Trm) × (Value × List Int) × Unit → Prop := fun y => mpTs W y.1 ∧ ms2 W y.2
abbrev mz1 : (Value × List Trm) × (Value × List Int) × Unit → List Value := fun y => mcV y.1 ++ mz2 y.2
theorem znP {W : World} : Opens Tryz.prog W 31 (fun p : Sv × Sgm => sgC p.1) (SgR W) := by
 refine @Opens.impP _ _ _ _ _ mz1 (ms1 W) _ _ (@zel _ _ _ _ 2 ((Value × List Trm) × (Value × List Int) × Unit) mz1 (ms1 W) Tryz.underlying31 (by kernel_rfl) ?h) (fun y => ((⟨slM y.1.1, slM y.2.1.1⟩ : Sv), (⟨y.1.2, y.2.1.2⟩ : Sgm))) (fun y h => ?_) (fun y h => ?_)
 ·refine @zck _ _ _ _ _ _ 1 _ _ mcV (mpTs W) mz2 (ms2 W) rfl ?_ ?_ ?_
  ·kernel_rfl
  ·exact zly
  refine @zck _ _ _ _ _ _ 1 _ _ mcV (mpIs W) mcN mpN rfl ?_ ?_ ?_
  ·kernel_rfl
  ·exact zjo
  exact @zhS _ _ _
 ·have e1 := zjv h.1.1.1
  have e2 := zjv h.2.1.1.1
  show [y.1.1] ++ ([y.2.1.1] ++ []) = [(slM y.1.1).v, (slM y.2.1.1).v]
  rw [← e1, ← e2]; rfl
 ·have e1 := zjv h.1.1.1
  have e2 := zjv h.2.1.1.1
  refine ⟨⟨?_, ?_, ?_, ?_⟩, h.1.1.2.2, by have := h.1.1.2.1; dsimp only; omega, by have := h.2.1.1.2.1; dsimp only; omega, h.2.1.1.2.2⟩
  ·show RowO W (slM y.1.1).v tmC _
   rw [← e1]; exact h.1.1.1
  ·show RowO W (slM y.2.1.1).v mcI _
   rw [← e2]; exact h.2.1.1.1
  ·show CapK (slM y.1.1).v
   rw [← e1]; exact h.1.2
  ·show CapK (slM y.2.1.1).v
   rw [← e2]; exact h.2.1.2
instance : Inhabited (Sv × Sgm) := ⟨(default, ⟨[], []⟩)⟩
section
variable {W : World} {H : Type} {enc : TypeId × Value → H} {v : Value} {d : DataW H} {ps : List MemPlace}
theorem zpp (hs : v.cells.toList = [v]) (ht : DataW.Trod enc Tryz.prog W 0 (fun _ => true) true 22 v d ps) (hsz : ∀ n ∈ d.weights Tryz.prog 22, n ≤ reachBytes) : ∃ l : List (Sv × Sgm), RowO W v (fun p : Sv × Sgm => sgC p.1) l ∧ (∀ p ∈ l, SgR W p) ∧ l.length * 48 ≤ 140737488351232 := by
 have op := @zdf Tryz.prog W 22 _ (Sv × Sgm) _ _ _ 2 48 Tryz.underlying22 (@znP W) (fun _ => rfl) (by decide) (by kernel_rfl) (by kernel_rfl) (by decide)
 obtain ⟨⟨v1, l⟩, e, h1, h2, h3⟩ := zfa (@op) ht hsz
 rw [hs] at e
 obtain rfl : v = v1 := by simpa using e
 exact ⟨l, h1, h3, h2⟩
theorem zln (hs : v.cells.toList = [v]) (ht : DataW.Trod enc Tryz.prog W 0 (fun _ => true) true 23 v d ps) (hsz : ∀ n ∈ d.weights Tryz.prog 23, n ≤ reachBytes) : ∃ l : List Int, RowI W v l ∧ (∀ z ∈ l, mpI z) ∧ l.length * 8 ≤ 140737488351232 ∧ CapK v := by
 obtain ⟨⟨v1, l⟩, e, ⟨h1, h2, h3⟩, h4⟩ := zfa (@zjo W) ht hsz
 rw [hs] at e
 obtain rfl : v = v1 := by simpa using e
 exact ⟨l, h1, h3, h2, h4⟩
end
end Go.Proofs.YtcdpocffoapbeaaGreatDoor
namespace Go.Proofs.YtcdpocffoapbeaaGreatDoor
set_option linter.unusedVariables false
set_option maxHeartbeats 8000000
open Go.Shelf Go.RowKit Go.Pw Go.Vc Go.Cs Go.Lib Go.Cd Go.Mg
set_option linter.unusedVariables false
set_option maxRecDepth 100000
structure Little (s : Sgm) : Prop where
 d : s.docs.length ≤ 50
 t : s.terms.length ≤ 80
 x : ∀ t ∈ s.terms, t.word.length + t.list.length ≤ 3000
section
variable {w : World}
theorem zmk (x : Sv × Sgm) (hx : SgR w x) : Calls Tryz.prog 27 #[.agg (sgC x.1).toArray] w fun e w' => (∃ q, e = .returned (.bool q) ∧ (q = true → Little x.2)) ∧ Kp w w' n_ := by
 obtain ⟨h, s⟩ := x
 obtain ⟨hr, htm, htl, hdl, _⟩ := hx
 dsimp only at hr htm htl hdl ⊢
 have hn1 := RowO.len hr.t
 have hn2 := RowO.len hr.d
 obtain ⟨at_, ct, et, hrt⟩ := hr.t
 obtain ⟨ad, cd, ed, hrd⟩ := hr.d
 obtain ⟨⟨ta, tn, tc⟩, ⟨da, dn, dc⟩⟩ := h
 injection et with q1 q2 q3
 injection ed with q4 q5 q6
 dsimp only at q1 q2 q3 q4 q5 q6
 subst q1 q2 q3 q4 q5 q6
 clear hn1 hn2 hr hrd
 refine zaa (args := [.agg (sgC ⟨⟨ta, s.terms.length, tc⟩, ⟨da, s.docs.length, dc⟩⟩).toArray]) Tryz.func27 rfl NL ?_; refine GW ?_
 obtain ⟨a_b1, v_b1, k_w1, z_w1, r_w1⟩ := new5 w 31 (sgC ⟨⟨ta, s.terms.length, tc⟩, ⟨da, s.docs.length, dc⟩⟩)
 generalize w.alloc (.cells (List.toArray (sgC ⟨⟨ta, s.terms.length, tc⟩, ⟨da, s.docs.length, dc⟩⟩)) 31) = w1 at *
 generalize hs_b1 : w.heap.size = b1 at *
 unfold sgC at a_b1
 dsimp only at a_b1
 refine KGO ?_
 refine Loop.intro (ι := Nat × Nat) (fun i => [(1, .pointer (some ⟨b1, 0, none⟩)), (3, .int .i64 (i.2 : Nat)), (4, .int .i64 (i.1 : Nat))])
  (fun i wr => Kp w1 wr n_ ∧ i.1 ≤ s.terms.length ∧ i.1 ≤ 100 ∧ i.2 ≤ i.1 * 281474976710656 ∧ ∀ t ∈ s.terms.take i.1, t.word.length + t.list.length ≤ i.2) (fun i => 100 - i.1) (0, 0) ⟨rfl, rfl, rfl, trivial⟩ ⟨Kp.refl _ _, Nat.zero_le _, Nat.zero_le _, Nat.zero_le _, by simp⟩ ?_
 rintro ⟨i, n⟩ gg wr ⟨hK, hi, hi1, hn, hall⟩
 dsimp only at hi hi1 hn hall ⊢
 have hKw := k_w1.trans0 hK
 have qr := Kp.refl wr n_
 clear r_w1
 refine GW ?_
 have hfin : (s.terms.length ≤ i ∨ 100 ≤ i) → s.docs.length ≤ 50 → s.terms.length ≤ 80 → n ≤ 3000 → Little s := fun h1 h2 h3 h4 => ⟨h2, h3, fun t ht => Nat.le_trans (hall t (by rw [List.take_of_length_le (by omega)]; exact ht)) h4⟩
 by_cases hlt : i < s.terms.length ∧ i < 100
 ·obtain ⟨hlt, hlt2⟩ := hlt
  clear hfin
  obtain ⟨g, o, rfl, hg, hat⟩ := hrt (by omega)
  have ht := htm _ (List.getElem_mem hlt)
  have ht1 := ht.2.1
  have ht2 := ht.2.2
  have hs1 : (str s.terms[i].word).size = s.terms[i].word.length := rfl
  have hs2 : (str s.terms[i].list).size = s.terms[i].list.length := rfl
  refine KGO ?_
  refine ⟨(i + 1, n + s.terms[i].word.length + s.terms[i].list.length), ⟨rfl, v_int (by dsimp only; rw [hs1, hs2]; omega), v_int (by simp), trivial⟩, ⟨hK.drew, by omega, by dsimp only; omega, by dsimp only; omega, fun t h => ?_⟩, by dsimp only; omega⟩
  rw [List.take_succ_eq_append_getElem hlt, List.mem_append, List.mem_singleton] at h
  rcases h with h | rfl
  ·have := hall t h; dsimp only; omega
  ·dsimp only; omega
 ·rcases Nat.lt_or_ge i s.terms.length with hlt3 | hge
  ·have h100 : 100 ≤ i := by omega
   have h80 : ¬ s.terms.length ≤ 80 := by omega
   clear hfin hall hlt
   by_cases h1 : s.docs.length ≤ 50
   ·refine KGO ?_
    exact ⟨⟨_, rfl, fun h => by cases h⟩, hKw⟩
   ·refine KGO ?_
    exact ⟨⟨_, rfl, fun h => by cases h⟩, hKw⟩
  ·have hfin := hfin (.inl hge)
   clear hall hlt
   by_cases h1 : s.docs.length ≤ 50
   ·have hfin := hfin h1
    by_cases h2 : s.terms.length ≤ 80
    ·have hfin := hfin h2
     refine KGO ?_
     exact ⟨⟨_, rfl, fun h => hfin (by have := of_decide_eq_true h; omega)⟩, hKw⟩
    ·clear hfin
     refine KGO ?_
     exact ⟨⟨_, rfl, fun h => by cases h⟩, hKw⟩
   ·clear hfin
    refine KGO ?_
    exact ⟨⟨_, rfl, fun h => by cases h⟩, hKw⟩
theorem SgR.keep {W W' : World} {x : Sv × Sgm} (h : SgR W x) (k : Kp W W' n_) : SgR W' x := ⟨h.1.keep k, h.2⟩
theorem zlX {vl vd : Value} (l : List (Sv × Sgm)) (dead : List Int) (hl : RowO w vl (fun p : Sv × Sgm => sgC p.1) l) (hx : ∀ p ∈ l, SgR w p) (hll : l.length ≤ 10000000000000) (hd : RowI w vd dead) (hdl : dead.length ≤ 1000000000000000) :
  Calls Tryz.prog 9 #[vl, vd] w fun e w' => (∃ q, e = .returned (.bool q) ∧ (q = true → l.length ≤ 5 ∧ dead.length ≤ 50 ∧ ∀ p ∈ l, Little p.2)) ∧ Kp w w' n_ := by
 obtain ⟨a, c, rfl, hra⟩ := hl
 obtain ⟨ad, cd, rfl, hrd⟩ := hd
 refine zaa (args := [.slice a l.length c, .slice ad dead.length cd]) Tryz.func9 rfl NL ?_; refine GW ?_
 refine KGO ?_
 refine Loop.intro (ι := Nat) (fun i => [(0, .slice a l.length c), (1, .slice ad dead.length cd), (5, .int .i64 (i : Nat))])
  (fun i wr => Kp w wr n_ ∧ i ≤ l.length ∧ ∀ p ∈ l.take i, Little p.2) (fun i => l.length - i) 0 ⟨rfl, rfl, rfl, trivial⟩ ⟨Kp.refl _ _, Nat.zero_le _, by simp⟩ ?_
 rintro i gg wr ⟨hK, hi, hall⟩
 refine GW ?_
 by_cases hlt : i < l.length
 ·obtain ⟨g, o, rfl, hg, hat⟩ := hra (by omega)
  refine KGO ?_
  refine CallS.of (Tryz.call27 _ _) (zmk (w := wr) l[i] ((hx _ (List.getElem_mem hlt)).keep hK)) ?_
  rintro e w2 ⟨⟨q, rfl, hq⟩, k2⟩
  refine RT ?_
  cases q with
  | false =>
   refine KGO ?_
   exact ⟨⟨false, rfl, fun h => by cases h⟩, hK.trans0 k2⟩
  | true =>
   have hq := hq rfl
   refine KGO ?_
   refine ⟨i + 1, ⟨rfl, rfl, v_int (by simp), trivial⟩, ⟨hK.trans0 k2, by omega, fun p hp => ?_⟩, by dsimp only; omega⟩
   rw [List.take_succ_eq_append_getElem hlt, List.mem_append, List.mem_singleton] at hp
   rcases hp with hp | rfl
   ·exact hall p hp
   ·exact hq
 ·rw [List.take_of_length_le (by omega)] at hall
  by_cases h1 : l.length ≤ 5
  ·have hfin : dead.length ≤ 50 → l.length ≤ 5 ∧ dead.length ≤ 50 ∧ ∀ p ∈ l, Little p.2 := fun h2 => ⟨h1, h2, hall⟩
   clear hall
   refine KGO ?_
   exact ⟨⟨_, rfl, fun h => hfin (by have := of_decide_eq_true h; omega)⟩, hK⟩
  ·clear hall
   refine KGO ?_
   exact ⟨⟨_, rfl, fun h => by cases h⟩, hK⟩
end
def smA : List Ent := [⟨3, 3, [97, 32, 98]⟩, ⟨5, 3, [98]⟩]
def smB : List Ent := [⟨4, 3, [98, 32, 99]⟩, ⟨5, 4, [120]⟩]
def smW : List Ent := [⟨5, 3, [98]⟩, ⟨4, 3, [98, 32, 99]⟩, ⟨5, 4, [120]⟩]
theorem zko (a b : Sgm) (dead : List Int) : allS [b, a] dead = twoS a b dead := by
 refine zme (zcN _ _ _) (zcN _ _ _) (fun d => ?_) (fun k d => ?_)
 ·show dS (twoS (twoS ⟨[], []⟩ b dead) a dead) d ↔ _
  simp only [zow, iff_false_intro (zpW d), false_or]
  by_cases h : d ∈ dead <;> simp [h, or_comm]
 ·show pS (twoS (twoS ⟨[], []⟩ b dead) a dead) k d = _
  simp only [zos, zpS, zdZ]
  by_cases h : d ∈ dead
  ·rw [if_pos h, if_pos h]
  ·simp only [h, if_false]
   rw [zno (zoG a _ _) (zoG b _ _)]
theorem zkN {s : Sgm} {es : List Ent} (h : Built s es) (k : Ky) : k ∈ s.terms.map Trm.key ↔ ∃ d, placesE es k d ≠ [] := by
 obtain ⟨r1, r2, r3⟩ := zan.1 h.right
 constructor
 ·intro hk
  obtain ⟨t, ht, rfl⟩ := List.mem_map.1 hk
  obtain ⟨ne, _⟩ := zcO (r2 t ht)
  obtain ⟨p, hp⟩ := List.exists_mem_of_ne_nil _ ne
  have hr := zdi t
  refine ⟨p.doc, ?_⟩
  rw [← h.posts, zcf _ r3 t ht, zcc (zaZ hr) hp]
  exact ((zaH.1 hr).2 p hp).2.2.1
 ·rintro ⟨d, hd⟩
  rw [← h.posts] at hd
  have : postsT s.terms k ≠ [] := fun e => hd (by rw [e]; rfl)
  obtain ⟨t, ht, e, _⟩ := zdQ this
  exact List.mem_map.2 ⟨t, ht, e⟩
theorem ziJ : keptE smW = smW := by decide +kernel
theorem sm_w1 : wordsOf [98] = [[98]] := by decide +kernel
theorem sm_w2 : wordsOf [98, 32, 99] = [[98], [99]] := by decide +kernel
theorem sm_w3 : wordsOf [120] = [[120]] := by decide +kernel
theorem zpt {s : Sgm} (h : Built s (keptE smW)) : s.docs = [4, 5] := by
 rw [ziJ] at h
 refine zbL stoI _ _ (zan.1 h.right).1.1 (by unfold AscB; decide) fun z => (h.docs z).trans ?_
 unfold smW
 simp
 omega
theorem znC {s : Sgm} (h : Built s (keptE smW)) : s.terms.length = 3 := by
 rw [ziJ] at h
 have e : s.terms.map Trm.key = [(3, [98]), (3, [99]), (4, [120])] := by
  refine zbL stoK _ _ ?_ (by unfold AscB; decide +kernel) fun k => (zkN h k).trans ?_
  ·exact List.pairwise_map.2 (zan.1 h.right).2.2
  ·constructor
   ·rintro ⟨d, hd⟩
    obtain ⟨e, he, h1, h2, h3, h4⟩ := zbk (by rw [← ziJ]; exact zcK _) k d hd
    obtain ⟨k1, k2⟩ := k
    dsimp only at h2 h4 ⊢
    unfold smW at he
    simp only [List.mem_cons, List.not_mem_nil, or_false] at he
    rcases he with rfl | rfl | rfl
    ·rw [sm_w1] at h4
     rw [List.mem_singleton.1 h4, ← h2]; simp
    ·rw [sm_w2] at h4
     rw [← h2]
     rcases List.mem_cons.1 h4 with rfl | h4
     ·simp
     ·rw [List.mem_singleton.1 h4]; simp
    ·rw [sm_w3] at h4
     rw [List.mem_singleton.1 h4, ← h2]; simp
   ·intro hk
    simp only [List.mem_cons, List.not_mem_nil, or_false] at hk
    rcases hk with rfl | rfl | rfl
    ·exact ⟨5, by decide +kernel⟩
    ·exact ⟨4, by decide +kernel⟩
    ·exact ⟨5, by decide +kernel⟩
 have := congrArg List.length e
 simpa using this
theorem zpT {a b s : Sgm} (ha : Built a (keptE smA)) (hb : Built b (keptE smB)) (hs : Built s (keptE smW)) : twoS a b [3] = s :=
 znf (by decide) ha hb (by rw [show liveE [3] (smA ++ smB) = smW from by decide]; exact hs)
theorem zct (d f : Int) (t : ByteArray) (w : World) : (Instr.build 41 [(0, .int .i64 d), (1, .int .i64 f), (2, .string t)].toArray).run Tryz.prog w = .ok (.agg #[.int .i64 d, .int .i64 f, .string t]) w := by
 simp [Instr.build, Instr.fill, go_sem, Tryz.runUnderlying41]
theorem bs2En (x y : Ent) (w : World) : (Instr.buildSlice 36 2 [(0, .agg (enC x).toArray), (1, .agg (enC y).toArray)].toArray).run Tryz.prog w = .ok (.slice (some ⟨w.heap.size, 0, none⟩) 2 2) (w.alloc (.cells (List.toArray (enC x ++ enC y)) 41)) := by
 simp [Instr.buildSlice, Instr.fill, go_sem, Tryz.runUnderlying36, enC]
theorem bs3En (x y z : Ent) (w : World) : (Instr.buildSlice 36 3 [(0, .agg (enC x).toArray), (1, .agg (enC y).toArray), (2, .agg (enC z).toArray)].toArray).run Tryz.prog w = .ok (.slice (some ⟨w.heap.size, 0, none⟩) 3 3) (w.alloc (.cells (List.toArray (enC x ++ enC y ++ enC z)) 41)) := by
 simp [Instr.buildSlice, Instr.fill, go_sem, Tryz.runUnderlying36, enC]
theorem bs3I (x y z : Int) (w : World) : (Instr.buildSlice 23 3 [(0, .int .i64 x), (1, .int .i64 y), (2, .int .i64 z)].toArray).run Tryz.prog w = .ok (.slice (some ⟨w.heap.size, 0, none⟩) 3 3) (w.alloc (.cells (List.toArray [.int .i64 x, .int .i64 y, .int .i64 z]) 3)) := by
 simp [Instr.buildSlice, Instr.fill, go_sem, Tryz.runUnderlying23]
theorem bs2Sg (x y : Sv) (w : World) : (Instr.buildSlice 22 2 [(0, .agg (sgC x).toArray), (1, .agg (sgC y).toArray)].toArray).run Tryz.prog w = .ok (.slice (some ⟨w.heap.size, 0, none⟩) 2 2) (w.alloc (.cells (List.toArray (sgC x ++ sgC y)) 31)) := by
 simp [Instr.buildSlice, Instr.fill, go_sem, Tryz.runUnderlying22, sgC]
theorem zlP {s : Sgm} (h : Little s) : Bd s 50 80 3000 :=
 ⟨h.d, h.t, fun z hz => by have := h.x z hz; have := zeL z; exact ⟨by omega, by omega, by omega⟩⟩
theorem zjc {s : Sgm} {es : List Ent} (h : Built s (keptE es)) (hn : es.length ≤ 100) (hm : ∀ e ∈ es, e.text.length ≤ 100) : Bd s 100 20100 20300 :=
 zny (n := 100) (m := 201) h (zcK es) (by have := zhp es; omega) fun e he => by have := hm e (zcG he); omega
theorem zhG {s : Sgm} (h : Bd s 100 20100 20300) : SmS s := zgh h (by decide) (by decide) (by decide)
section
variable {w : World}
theorem zlj (hE : CEnv w) : Calls Tryz.prog 8 #[] w fun e w' => e = .returned (.bool true) ∧ Kp w w' n_ := by
 refine zaa (args := []) Tryz.func8 rfl NL ?_; refine GW ?_
 refine KGO ?_
 refine RunV.of (zct 3 3 _ _) ?_
 refine KGO ?_
 refine RunV.of (zct 5 3 _ _) ?_
 refine KGO ?_
 refine RunV.of (bs2En ⟨3, 3, [97, 32, 98]⟩ ⟨5, 3, [98]⟩ _) ?_
 obtain ⟨a_q1, v_q1, k_w1, z_w1, r_w1⟩ := new5 w 41 (enC ⟨3, 3, [97, 32, 98]⟩ ++ enC ⟨5, 3, [98]⟩)
 generalize w.alloc (.cells (List.toArray (enC ⟨3, 3, [97, 32, 98]⟩ ++ enC ⟨5, 3, [98]⟩)) 41) = w1 at *
 generalize hs_q1 : w.heap.size = q1 at *
 have row1 : RowO w1 (.slice (some ⟨q1, 0, none⟩) 2 2) enC smA := ⟨_, 2, rfl, fun _ => ⟨q1, 0, rfl, v_q1.lt, a_q1⟩⟩
 refine KGO ?_
 refine CallS.of (Tryz.call20 _ _) (zhd (w := w1) smA row1 (hE.keep k_w1) (by decide) (by decide)) ?_
 rintro e w2 ⟨hA, sA, rfl, oA, bA, k2⟩
 have K2 := k_w1.trans0 k2
 refine RT ?_
 refine KGO ?_
 have v1 := VarK.new w2 31 (sgC hA)
 refine Store.fresh (vs := sgC hA) (by rfl) rfl (zaq (by rfl)) ?_
 obtain ⟨a_b1, k_w3, z_w3⟩ := new3 w2 31 (sgC hA)
 generalize w2.alloc (.cells (List.toArray (sgC hA)) 31) = w3 at *
 generalize hs_b1 : w2.heap.size = b1 at *
 have K3 := K2.trans0 k_w3
 clear a_b1 a_q1 v_q1 row1
 refine KGO ?_
 refine RunV.of (zct 4 3 _ _) ?_
 refine KGO ?_
 refine RunV.of (zct 5 4 _ _) ?_
 refine KGO ?_
 refine RunV.of (bs2En ⟨4, 3, [98, 32, 99]⟩ ⟨5, 4, [120]⟩ _) ?_
 obtain ⟨a_q2, v_q2, k_w4, z_w4, r_w4⟩ := new5 w3 41 (enC ⟨4, 3, [98, 32, 99]⟩ ++ enC ⟨5, 4, [120]⟩)
 generalize w3.alloc (.cells (List.toArray (enC ⟨4, 3, [98, 32, 99]⟩ ++ enC ⟨5, 4, [120]⟩)) 41) = w4 at *
 generalize hs_q2 : w3.heap.size = q2 at *
 have row2 : RowO w4 (.slice (some ⟨q2, 0, none⟩) 2 2) enC smB := ⟨_, 2, rfl, fun _ => ⟨q2, 0, rfl, v_q2.lt, a_q2⟩⟩
 have K4 := K3.trans0 k_w4
 refine KGO ?_
 refine CallS.of (Tryz.call20 _ _) (zhd (w := w4) smB row2 (hE.keep K4) (by decide) (by decide)) ?_
 rintro e w5 ⟨hB, sB, rfl, oB, bB, k5⟩
 have K5 := K4.trans0 k5
 refine RT ?_
 refine KGO ?_
 have v2 := VarK.new w5 31 (sgC hB)
 refine Store.fresh (vs := sgC hB) (by rfl) rfl (zaq (by rfl)) ?_
 obtain ⟨a_b2, k_w6, z_w6⟩ := new3 w5 31 (sgC hB)
 generalize w5.alloc (.cells (List.toArray (sgC hB)) 31) = w6 at *
 generalize hs_b2 : w5.heap.size = b2 at *
 have K6 := K5.trans0 k_w6
 have J36 := (k_w4.trans0 k5).trans0 k_w6
 have v1 := v1.keep0 J36
 have a1 := v1.at
 have a2 := v2.at
 have q6 := Kp.refl w6 n_
 have bdA := zjc bA (by decide) (by decide)
 have bdB := zjc bB (by decide) (by decide)
 have oA := (oA.keep k_w3).keep J36
 have oB := oB.keep k_w6
 clear a_b2 a_q2 v_q2 row2 J36
 refine KGO ?_
 refine RunV.of (bs1I 3 _) ?_
 obtain ⟨a_q3, v_q3, k_w7, z_w7, r_w7⟩ := new5 w6 3 (inC 3)
 generalize w6.alloc (.cells (List.toArray (inC 3)) 3) = w7 at *
 generalize hs_q3 : w6.heap.size = q3 at *
 have r3 : RowI w7 (.slice (some ⟨q3, 0, none⟩) 1 1) [3] := ⟨_, 1, rfl, fun _ => ⟨q3, 0, rfl, v_q3.lt, a_q3⟩⟩
 have K7 := K6.trans0 k_w7
 refine KGO ?_
 refine CallS.of (Tryz.call15 _ _) (zlK (w := w7) hA hB sA sB [3] (oA.rd.keep k_w7) (oB.rd.keep k_w7) (zhG bdA) (zhG bdB) r3 (by decide) (hE.keep K7)) ?_
 rintro e w8 ⟨hM, rfl, oM, k8⟩
 have K8 := K7.trans0 k8
 refine RT ?_
 refine KGO ?_
 have v3 := VarK.new w8 31 (sgC hM)
 refine Store.fresh (vs := sgC hM) (by rfl) rfl (zaq (by rfl)) ?_
 obtain ⟨a_b3, k_w9, z_w9⟩ := new3 w8 31 (sgC hM)
 generalize w8.alloc (.cells (List.toArray (sgC hM)) 31) = w9 at *
 generalize hs_b3 : w8.heap.size = b3 at *
 have K9 := K8.trans0 k_w9
 have J69 := (k_w7.trans0 k8).trans0 k_w9
 have v1 := v1.keep0 J69
 have v2 := v2.keep0 J69
 have oA := oA.keep J69
 have oB := oB.keep J69
 have oM := oM.keep k_w9
 clear a_b3 a_q3 v_q3 r3 J69 a1 a2 q6
 refine KGO ?_
 refine RunV.of (zct 5 3 _ _) ?_
 refine KGO ?_
 refine RunV.of (zct 4 3 _ _) ?_
 refine KGO ?_
 refine RunV.of (zct 5 4 _ _) ?_
 refine KGO ?_
 refine RunV.of (bs3En ⟨5, 3, [98]⟩ ⟨4, 3, [98, 32, 99]⟩ ⟨5, 4, [120]⟩ _) ?_
 obtain ⟨a_q4, v_q4, k_w10, z_w10, r_w10⟩ := new5 w9 41 (enC ⟨5, 3, [98]⟩ ++ enC ⟨4, 3, [98, 32, 99]⟩ ++ enC ⟨5, 4, [120]⟩)
 generalize w9.alloc (.cells (List.toArray (enC ⟨5, 3, [98]⟩ ++ enC ⟨4, 3, [98, 32, 99]⟩ ++ enC ⟨5, 4, [120]⟩)) 41) = w10 at *
 generalize hs_q4 : w9.heap.size = q4 at *
 have row4 : RowO w10 (.slice (some ⟨q4, 0, none⟩) 3 3) enC smW := ⟨_, 3, rfl, fun _ => ⟨q4, 0, rfl, v_q4.lt, a_q4⟩⟩
 have K10 := K9.trans0 k_w10
 refine KGO ?_
 refine CallS.of (Tryz.call20 _ _) (zhd (w := w10) smW row4 (hE.keep K10) (by decide) (by decide)) ?_
 rintro e w11 ⟨hW, sW, rfl, oW, bW, k11⟩
 have K11 := K10.trans0 k11
 refine RT ?_
 refine KGO ?_
 have v4 := VarK.new w11 31 (sgC hW)
 refine Store.fresh (vs := sgC hW) (by rfl) rfl (zaq (by rfl)) ?_
 obtain ⟨a_b4, k_w12, z_w12⟩ := new3 w11 31 (sgC hW)
 generalize w11.alloc (.cells (List.toArray (sgC hW)) 31) = w12 at *
 generalize hs_b4 : w11.heap.size = b4 at *
 have K12 := K11.trans0 k_w12
 have J912 := (k_w10.trans0 k11).trans0 k_w12
 have v1 := v1.keep0 J912
 have v2 := v2.keep0 J912
 have v3 := v3.keep0 J912
 have oA := oA.keep J912
 have oB := oB.keep J912
 have oM := oM.keep J912
 have oW := oW.keep k_w12
 clear a_b4 a_q4 v_q4 row4 J912
 refine KGO ?_
 refine RunV.of (bs3I 9 4 3 _) ?_
 obtain ⟨a_q5, v_q5, k_w13, z_w13, r_w13⟩ := new5 w12 3 ([.int .i64 9, .int .i64 4, .int .i64 3])
 generalize w12.alloc (.cells (List.toArray ([.int .i64 9, .int .i64 4, .int .i64 3])) 3) = w13 at *
 generalize hs_q5 : w12.heap.size = q5 at *
 have r5 : RowI w13 (.slice (some ⟨q5, 0, none⟩) 3 3) [9, 4, 3] := ⟨_, 3, rfl, fun _ => ⟨q5, 0, rfl, v_q5.lt, a_q5⟩⟩
 refine KGO ?_
 have hp1 := zgR (w := w13) [9, 4, 3] r5 (by decide)
 rw [show pickL [9, 4, 3] = some 1 from by decide] at hp1
 refine CallS.of (Tryz.call10 _ _) hp1 ?_
 rintro e w14 ⟨rfl, k14⟩
 refine RT ?_
 refine KGO ?_
 refine RunV.of (bs3I 9 4 1 _) ?_
 obtain ⟨a_q6, v_q6, k_w15, z_w15, r_w15⟩ := new5 w14 3 ([.int .i64 9, .int .i64 4, .int .i64 1])
 generalize w14.alloc (.cells (List.toArray ([.int .i64 9, .int .i64 4, .int .i64 1])) 3) = w15 at *
 generalize hs_q6 : w14.heap.size = q6 at *
 have r6 : RowI w15 (.slice (some ⟨q6, 0, none⟩) 3 3) [9, 4, 1] := ⟨_, 3, rfl, fun _ => ⟨q6, 0, rfl, v_q6.lt, a_q6⟩⟩
 refine KGO ?_
 have hp2 := zgR (w := w15) [9, 4, 1] r6 (by decide)
 rw [show pickL [9, 4, 1] = none from by decide] at hp2
 refine CallS.of (Tryz.call10 _ _) hp2 ?_
 rintro e wz ⟨rfl, k16⟩
 refine RT ?_
 have J := ((k_w13.trans0 k14).trans0 k_w15).trans0 k16
 have K := K12.trans0 J
 have v1 := v1.keep0 J
 have v2 := v2.keep0 J
 have v3 := v3.keep0 J
 have v4 := v4.keep0 J
 have oA := oA.keep J
 have oB := oB.keep J
 have oM := oM.keep J
 have oW := oW.keep J
 have hTW : twoS sA sB [3] = sW := zpT bA bB bW
 have hMd := zpt bW
 have hMt := znC bW
 rw [hTW] at oM
 obtain ⟨sM, hsM⟩ : ∃ sM, sM = sW := ⟨_, rfl⟩
 rw [← hsM] at oM
 have hMW : sM = sW := hsM
 have hdl : sW.docs.length = 2 := by rw [hMd]; rfl
 have hdM : sM.docs.length = 2 := by rw [hMW]; exact hdl
 have htM : sM.terms.length = 3 := by rw [hMW]; exact hMt
 obtain ⟨_, _, eMt⟩ := zab oM.t
 obtain ⟨_, _, eMd⟩ := zab oM.d
 obtain ⟨⟨mta, mtn, mtc⟩, ⟨mda, mdn, mdc⟩⟩ := hM
 injection eMt with _ eMt _
 injection eMd with _ eMd _
 dsimp only at eMt eMd
 rw [htM] at eMt
 rw [hdM] at eMd
 subst eMt eMd
 have kd : Kp wz wz.drew n_ := (Kp.refl wz n_).drew
 clear K2 K3 K4 K5 K6 K7 K8 K9 K10 K11 K12 J k2 k5 k8 k11 k14 k16 k_w1 k_w3 k_w4 k_w6 k_w7 k_w9 k_w10 k_w12 k_w13 k_w15 hp1 hp2 r5 r6 a_q5 a_q6 v_q5 v_q6 hsM
 refine KGO ?_
 refine Draw.tree (fun u => Kp wz u n_) (fun _ => true) 6 [2, 31, 39, 40, 41, 43] [0, 1, 3, 4, 5, 6, 7, 8, 9, 10, 11, 12, 13, 14, 15, 16, 17, 18, 19, 20, 21, 22, 23, 24, 25, 26, 27, 28, 29, 30, 32, 33, 34, 35, 36, 37, 38, 42, 44, 45] (by decide +kernel) kd ?_
 refine TreeS.node [(2, [0, 1, 2], [31, 39, 40, 41, 43], [3, 4, 5, 6, 7, 8, 9, 10, 11, 12, 13, 14, 15, 16, 17, 18, 19, 20, 21, 22, 23, 24, 25, 26, 27, 28, 29, 30, 32, 33, 34, 35, 36, 37, 38, 42, 44, 45])] (by decide +kernel) ?_
 intro p hp
 simp only [List.mem_cons, List.not_mem_nil, or_false] at hp
 rcases hp with rfl
 ·refine GW ?_
  refine HeldG (sgC ⟨⟨mta, 3, mtc⟩, ⟨mda, 2, mdc⟩⟩) (by rfl) (by rfl) (fun u hu => (v3.keep0 hu).at) (by rfl) ?_
  refine GW ?_
  refine HeldG (sgC hW) (by rfl) (by rfl) (fun u hu => (v4.keep0 hu).at) (by rfl) ?_
  refine GW ?_
  refine CallS.of (Tryz.call12 _ _) (zcJ (w := wz.drew) ⟨⟨mta, 3, mtc⟩, ⟨mda, 2, mdc⟩⟩ hW sM sW (oM.rd.keep kd) (oW.rd.keep kd) (by omega) (by omega) (by omega)) ?_
  rintro e u1 ⟨rfl, ku1⟩
  rw [decide_eq_true hMW]
  refine RT ?_
  have J1 := (kd).trans0 ku1
  refine ⟨J1, ?_⟩
  refine GW ?_
  refine ⟨rfl, ?_⟩
  refine TreeS.node [(31, [3, 4, 5, 6, 7, 8, 9, 10, 11, 12, 13, 14, 15, 16, 17, 18, 19, 20, 21, 22, 23, 24, 25, 26, 27, 28, 29, 30, 31], [39, 40, 41, 43], [32, 33, 34, 35, 36, 37, 38, 42, 44, 45])] (by decide +kernel) ?_
  intro p hp
  simp only [List.mem_cons, List.not_mem_nil, or_false] at hp
  rcases hp with rfl
  ·refine GW ?_
   refine KGO ?_
   refine Held.one (by rfl) (fun u hu => (v3.keep0 hu).at 1 _ rfl) ?_
   refine KGO ?_
   refine Held.one (by rfl) (fun u hu => (v3.keep0 hu).at 0 _ rfl) ?_
   refine KGO ?_
   refine CallS.of (Tryz.call13 _ _) (zkd (w := u1) [] [] ⟨none, 0, rfl, fun h => absurd h (Nat.lt_irrefl 0)⟩ (fun p hp => by cases hp) (fun p hp => by cases hp) (by decide) ⟨none, 0, rfl, fun h => absurd h (Nat.lt_irrefl 0)⟩ (by decide) (hE.keep (K.trans0 J1))) ?_
   rintro e u2 ⟨⟨h0t, ⟨h0a, h0n, h0c⟩⟩, rfl, o0, ku2⟩
   obtain ⟨_, _, e0⟩ := zab o0.d
   injection e0 with e01 e02 e03
   dsimp only at e02
   subst e02
   refine RT ?_
   have J2 := (J1).trans0 ku2
   refine ⟨J2, ?_⟩
   refine GW ?_
   refine ⟨rfl, ?_⟩
   refine TreeS.node [(39, [32, 33, 34, 35, 36, 37, 38, 39], [40, 41, 43], [42, 44, 45]), (40, [32, 33, 34, 35, 36, 40], [39, 41, 43], [37, 38, 42, 44, 45])] (by decide +kernel) ?_
   intro p hp
   simp only [List.mem_cons, List.not_mem_nil, or_false] at hp
   rcases hp with rfl | rfl
   ·refine GW ?_
    refine KGO ?_
    refine HeldG (sgC hB) (by rfl) (by rfl) (fun u hu => (v2.keep0 hu).at) (by rfl) ?_
    refine KGO ?_
    refine HeldG (sgC hA) (by rfl) (by rfl) (fun u hu => (v1.keep0 hu).at) (by rfl) ?_
    refine KGO ?_
    refine RunV.of (bs2Sg hB hA _) ?_
    obtain ⟨a_qs, v_qs, k_u3, z_u3, r_u3⟩ := new5 u2 31 (sgC hB ++ sgC hA)
    generalize u2.alloc (.cells (List.toArray (sgC hB ++ sgC hA)) 31) = u3 at *
    generalize hs_qs : u2.heap.size = qs at *
    have J3 := (J2).trans0 k_u3
    have rS : RowO u3 (.slice (some ⟨qs, 0, none⟩) 2 2) sgP [(hB, sB), (hA, sA)] := ⟨_, 2, rfl, fun _ => ⟨qs, 0, rfl, v_qs.lt, a_qs⟩⟩
    refine GW ?_
    refine ⟨J3, ?_⟩
    refine GW ?_
    refine ⟨rfl, ?_⟩
    refine TreeS.node [(40, [40], [41, 43], [42, 44, 45])] (by decide +kernel) ?_
    intro p hp
    simp only [List.mem_cons, List.not_mem_nil, or_false] at hp
    rcases hp with rfl
    ·refine GW ?_
     refine KGO ?_
     refine RunV.of (bs1I 3 _) ?_
     obtain ⟨a_q3, v_q3, k_u4, z_u4, r_u4⟩ := new5 u3 3 (inC 3)
     generalize u3.alloc (.cells (List.toArray (inC 3)) 3) = u4 at *
     generalize hs_q3 : u3.heap.size = q3 at *
     have J4 := (J3).trans0 k_u4
     have r3 : RowI u4 (.slice (some ⟨q3, 0, none⟩) 1 1) [3] := ⟨_, 1, rfl, fun _ => ⟨q3, 0, rfl, v_q3.lt, a_q3⟩⟩
     have rS := rS.keep k_u4
     refine GW ?_
     refine ⟨J4, ?_⟩
     refine GW ?_
     refine ⟨rfl, ?_⟩
     refine TreeS.node [(41, [41], [43], [42, 44, 45])] (by decide +kernel) ?_
     intro p hp
     simp only [List.mem_cons, List.not_mem_nil, or_false] at hp
     rcases hp with rfl
     ·refine GW ?_
      have hcall := zkd (w := u4) [(hB, sB), (hA, sA)] [3] rS (fun p hp => by
       simp only [List.mem_cons, List.not_mem_nil, or_false] at hp
       rcases hp with rfl | rfl
       ·exact oB.rd.keep J4
       ·exact oA.rd.keep J4) (fun p hp => by
       simp only [List.mem_cons, List.not_mem_nil, or_false] at hp
       rcases hp with rfl | rfl
       ·exact bdB.mono (by decide) (by decide) (by decide)
       ·exact bdA.mono (by decide) (by decide) (by decide)) (show 2 ≤ 8 by decide) r3 (by decide) (hE.keep (K.trans0 J4))
      refine KGO ?_
      refine CallS.of (Tryz.call13 _ _) hcall ?_
      rintro e u5 ⟨hX, rfl, oX, ku5⟩
      refine RT ?_
      have J5 := (J4).trans0 ku5
      refine ⟨J5, ?_⟩
      refine GW ?_
      refine ⟨rfl, ?_⟩
      refine TreeS.node [(43, [42, 43], [], [44, 45])] (by decide +kernel) ?_
      intro p hp
      simp only [List.mem_cons, List.not_mem_nil, or_false] at hp
      rcases hp with rfl
      ·refine GW ?_
       refine KGO ?_
       refine HeldG (sgC hW) (by rfl) (by rfl) (fun u hu => (v4.keep0 hu).at) (by rfl) ?_
       refine KGO ?_
       have hX2 : allS ([(hB, sB), (hA, sA)].map (·.2)) [3] = sW := (zko sA sB [3]).trans hTW
       rw [hX2] at oX
       refine CallS.of (Tryz.call12 _ _) (zcJ (w := u5) hX hW sW sW oX.rd (oW.rd.keep J5) (by omega) (by omega) (by omega)) ?_
       rintro e u6 ⟨rfl, ku6⟩
       rw [decide_eq_true rfl]
       refine RT ?_
       have J6 := (J5).trans0 ku6
       refine ⟨J6, ?_⟩
       refine GW ?_
       refine ⟨rfl, ?_⟩
       refine TreeS.leaf ?_
       refine GW ?_
       refine KGO ?_
       exact ⟨rfl, K.trans0 J6⟩
   ·refine GW ?_
    refine KGO ?_
    refine RunV.of (bs1I 3 _) ?_
    obtain ⟨a_q3, v_q3, k_u3, z_u3, r_u3⟩ := new5 u2 3 (inC 3)
    generalize u2.alloc (.cells (List.toArray (inC 3)) 3) = u3 at *
    generalize hs_q3 : u2.heap.size = q3 at *
    have J3 := (J2).trans0 k_u3
    have r3 : RowI u3 (.slice (some ⟨q3, 0, none⟩) 1 1) [3] := ⟨_, 1, rfl, fun _ => ⟨q3, 0, rfl, v_q3.lt, a_q3⟩⟩
    refine GW ?_
    refine ⟨J3, ?_⟩
    refine GW ?_
    refine ⟨rfl, ?_⟩
    refine TreeS.node [(39, [37, 38, 39], [41, 43], [42, 44, 45])] (by decide +kernel) ?_
    intro p hp
    simp only [List.mem_cons, List.not_mem_nil, or_false] at hp
    rcases hp with rfl
    ·refine GW ?_
     refine KGO ?_
     refine HeldG (sgC hB) (by rfl) (by rfl) (fun u hu => (v2.keep0 hu).at) (by rfl) ?_
     refine KGO ?_
     refine HeldG (sgC hA) (by rfl) (by rfl) (fun u hu => (v1.keep0 hu).at) (by rfl) ?_
     refine KGO ?_
     refine RunV.of (bs2Sg hB hA _) ?_
     obtain ⟨a_qs, v_qs, k_u4, z_u4, r_u4⟩ := new5 u3 31 (sgC hB ++ sgC hA)
     generalize u3.alloc (.cells (List.toArray (sgC hB ++ sgC hA)) 31) = u4 at *
     generalize hs_qs : u3.heap.size = qs at *
     have J4 := (J3).trans0 k_u4
     have rS : RowO u4 (.slice (some ⟨qs, 0, none⟩) 2 2) sgP [(hB, sB), (hA, sA)] := ⟨_, 2, rfl, fun _ => ⟨qs, 0, rfl, v_qs.lt, a_qs⟩⟩
     have r3 := r3.keep k_u4
     refine GW ?_
     refine ⟨J4, ?_⟩
     refine GW ?_
     refine ⟨rfl, ?_⟩
     refine TreeS.node [(41, [41], [43], [42, 44, 45])] (by decide +kernel) ?_
     intro p hp
     simp only [List.mem_cons, List.not_mem_nil, or_false] at hp
     rcases hp with rfl
     ·refine GW ?_
      have hcall := zkd (w := u4) [(hB, sB), (hA, sA)] [3] rS (fun p hp => by
       simp only [List.mem_cons, List.not_mem_nil, or_false] at hp
       rcases hp with rfl | rfl
       ·exact oB.rd.keep J4
       ·exact oA.rd.keep J4) (fun p hp => by
       simp only [List.mem_cons, List.not_mem_nil, or_false] at hp
       rcases hp with rfl | rfl
       ·exact bdB.mono (by decide) (by decide) (by decide)
       ·exact bdA.mono (by decide) (by decide) (by decide)) (show 2 ≤ 8 by decide) r3 (by decide) (hE.keep (K.trans0 J4))
      refine KGO ?_
      refine CallS.of (Tryz.call13 _ _) hcall ?_
      rintro e u5 ⟨hX, rfl, oX, ku5⟩
      refine RT ?_
      have J5 := (J4).trans0 ku5
      refine ⟨J5, ?_⟩
      refine GW ?_
      refine ⟨rfl, ?_⟩
      refine TreeS.node [(43, [42, 43], [], [44, 45])] (by decide +kernel) ?_
      intro p hp
      simp only [List.mem_cons, List.not_mem_nil, or_false] at hp
      rcases hp with rfl
      ·refine GW ?_
       refine KGO ?_
       refine HeldG (sgC hW) (by rfl) (by rfl) (fun u hu => (v4.keep0 hu).at) (by rfl) ?_
       refine KGO ?_
       have hX2 : allS ([(hB, sB), (hA, sA)].map (·.2)) [3] = sW := (zko sA sB [3]).trans hTW
       rw [hX2] at oX
       refine CallS.of (Tryz.call12 _ _) (zcJ (w := u5) hX hW sW sW oX.rd (oW.rd.keep J5) (by omega) (by omega) (by omega)) ?_
       rintro e u6 ⟨rfl, ku6⟩
       rw [decide_eq_true rfl]
       refine RT ?_
       have J6 := (J5).trans0 ku6
       refine ⟨J6, ?_⟩
       refine GW ?_
       refine ⟨rfl, ?_⟩
       refine TreeS.leaf ?_
       refine GW ?_
       refine KGO ?_
       exact ⟨rfl, K.trans0 J6⟩
end
theorem sm_of {s : Sgm} {d t c : Nat} (h : Bd s d t c) (h1 : d ≤ 1000000) (h2 : t ≤ 1000000) (h3 : c ≤ 100000) : SmS s := zgh h (by omega) (by omega) (by omega)
section
end
end Go.Proofs.YtcdpocffoapbeaaGreatDoor
