/- Helper lemmas that the proved statement rests on; no conditions of their own. -/
import Derived.Lib.Split
import Derived.Lib.SplitLaws
import Derived.Lib.IndexLaws
import Derived.Lib.IndexBytes
import Derived.Shelf.Strings.SplitCore
import Derived.Shelf.Strings.Search3
import Derived.Shelf.Strings.Count
import Derived.Test.YtennokckmjcefaaGreatDoorGMg6
set_option linter.unusedVariables false
set_option maxHeartbeats 8000000
set_option maxRecDepth 100000
namespace Go.Proofs.YtennokckmjcefaaGreatDoor
open Go.Shelf Go.RowKit Go.Pw Go.Vc Go.Cs Go.Lib Go.Cd Go.Mg
theorem zgC {w : World} {B : Nat} {v : Value} {l : List (List UInt8)} (h : Txs w B v l) : OwnT w B v l := by
 have e : ∀ l : List (List UInt8), l.flatMap txC = l.map sv := fun l => by
  induction l with
  | nil => rfl
  | cons a l ih => rw [List.flatMap_cons, List.map_cons, ih]; rfl
 unfold OwnT
 rw [e l]; exact h
structure Sv where
 t : Sl
 d : Sl
instance : Inhabited Sv := ⟨⟨⟨none, 0, 0⟩, ⟨none, 0, 0⟩⟩⟩
def sgC (h : Sv) : List Value := [.slice h.t.a h.t.n h.t.c, .slice h.d.a h.d.n h.d.c]
structure RdS (w : World) (h : Sv) (s : Sgm) : Prop where
 t : RowO w h.t.v tmC s.terms
 d : RowI w h.d.v s.docs
 tc : CapK h.t.v
 dc : CapK h.d.v
theorem RdS.keep {w w' : World} {h : Sv} {s : Sgm} (r : RdS w h s) (k : Kp w w' n_) : RdS w' h s := ⟨r.t.keep k, r.d.keep k, r.tc, r.dc⟩
structure SmT (t : Trm) : Prop where
 w : t.word.length ≤ 10000000
 l : t.list.length ≤ 10000000
structure SmS (s : Sgm) : Prop where
 d : s.docs.length ≤ 1000000000
 t : s.terms.length ≤ 1000000000
 x : ∀ t ∈ s.terms, SmT t
structure CEnv (w : World) : Prop where
 c : CutTab w
 f : FoldTab w
theorem CEnv.keep {w w' : World} (h : CEnv w) (k : Kp w w' n_) : CEnv w' := ⟨h.c.keep k, h.f.keep k⟩
theorem zie {α : Type} {lt : α → α → Bool} (htr : ∀ a b c, lt a b = true → lt b c = true → lt a c = true) (l : List α) (hc : ∀ j (hj : j + 1 < l.length), lt (l[j]'(by omega)) l[j + 1] = true) : AscB lt l := by
 refine List.pairwise_iff_getElem.2 fun i j hi hj hij => ?_
 obtain ⟨d, rfl⟩ : ∃ d, j = i + 1 + d := ⟨j - i - 1, by omega⟩
 induction d with
 | zero => exact hc i hj
 | succ d ih => exact htr _ _ _ (ih (by omega) (by omega)) (hc (i + 1 + d) hj)
theorem zao {s : Sgm} : rightS s = true ↔ (AscB ltI s.docs ∧ ∀ n ∈ s.docs, 1 ≤ n ∧ n ≤ 1099511627776) ∧ (∀ t ∈ s.terms, okTerm s.docs t = true) ∧ s.terms.Pairwise fun a b => ltK a.key b.key = true := by
 unfold rightS
 rw [Bool.and_eq_true, Bool.and_eq_true, Go.Mg.risesB_iff, zhC, List.all_eq_true, and_assoc]
section
variable {w : World}
theorem zjW (h : Sv) (s : Sgm) (hr : RdS w h s) (hs : SmS s) (hE : CEnv w) : Calls Tryz.prog 116 #[.agg (sgC h).toArray] w fun e w' => e = .returned (.bool (rightS s)) ∧ Kp w w' n_ := by
 have hn1 := RowO.len hr.t
 have hn2 := RowO.len hr.d
 obtain ⟨at_, ct, et, hrt⟩ := hr.t
 obtain ⟨ad, cd, ed, hrd⟩ := hr.d
 have hrd0 := hr.d
 obtain ⟨⟨ta, tn, tc⟩, ⟨da, dn, dc⟩⟩ := h
 injection et with q1 q2 q3
 injection ed with q4 q5 q6
 dsimp only at q1 q2 q3 q4 q5 q6 hrd0
 subst q1 q2 q3 q4 q5 q6
 have hsd := hs.d
 have hst := hs.t
 clear hn1 hn2
 refine zaa (args := [.agg (sgC ⟨⟨ta, s.terms.length, tc⟩, ⟨da, s.docs.length, dc⟩⟩).toArray]) Tryz.func116 rfl NL ?_; refine GW ?_
 obtain ⟨a_b1, v_b1, k_w1, z_w1, r_w1⟩ := new5 w 65 (sgC ⟨⟨ta, s.terms.length, tc⟩, ⟨da, s.docs.length, dc⟩⟩)
 generalize w.alloc (.cells (List.toArray (sgC ⟨⟨ta, s.terms.length, tc⟩, ⟨da, s.docs.length, dc⟩⟩)) 65) = w1 at *
 generalize hs_b1 : w.heap.size = b1 at *
 unfold sgC at a_b1
 dsimp only at a_b1
 refine KGO ?_
 refine Loop.intro (ι := Nat) (fun i => [(1, .pointer (some ⟨b1, 0, none⟩)), (9, .slice da s.docs.length dc), (10, .int .i64 (s.docs.length : Nat)), (11, .int .i64 (i : Nat))])
  (fun i wr => Kp w1 wr n_ ∧ i ≤ s.docs.length ∧ (∀ n ∈ s.docs.take i, 1 ≤ n ∧ n ≤ 1099511627776) ∧ ∀ j (hj : j + 1 < s.docs.length), j + 1 < i → ltI (s.docs[j]'(by omega)) s.docs[j + 1] = true) (fun i => s.docs.length - i) 0 ⟨rfl, rfl, rfl, rfl, trivial⟩ ⟨Kp.refl _ _, Nat.zero_le _, by simp, fun j hj h => by omega⟩ ?_
 rintro i gg wr ⟨hK, hi, hra, hrc⟩
 have hKw := k_w1.trans0 hK
 clear r_w1
 refine GW ?_
 by_cases hlt : i < s.docs.length
 ·obtain ⟨g, o, rfl, hg, hat⟩ := hrd (by omega)
  have ci := zcI hat hlt
  have hno : ¬ (1 ≤ s.docs[i] ∧ s.docs[i] ≤ 1099511627776) → rightS s = false := fun h => by
   cases hq : rightS s with
   | false => rfl
   | true => exact absurd ((zao.1 hq).1.2 _ (List.getElem_mem hlt)) h
  have hat' := hat
  clear hrt hat
  by_cases h1 : s.docs[i] < 1
  ·refine KGO ?_
   exact ⟨zal (hno (by omega)).symm, hKw⟩
  by_cases h2 : 1099511627776 < s.docs[i]
  ·refine KGO ?_
   exact ⟨zal (hno (by omega)).symm, hKw⟩
  have hra2 : ∀ n ∈ s.docs.take (i + 1), 1 ≤ n ∧ n ≤ 1099511627776 := fun n hn => by
   rw [List.take_succ_eq_append_getElem hlt, List.mem_append, List.mem_singleton] at hn
   rcases hn with hn | rfl
   ·exact hra n hn
   ·omega
  cases i with
  | zero =>
   refine KGO ?_
   exact ⟨1, ⟨rfl, rfl, rfl, rfl, trivial⟩, ⟨hK, by omega, hra2, fun j hj h => by omega⟩, by dsimp only; omega⟩
  | succ k =>
   have ck : w.cell? ⟨g, o + k, none⟩ = some (.int .i64 s.docs[k]) := zcI hat' (by omega)
   have e1 : (((k + 1 : Nat) : Int) - 1).toNat = k := by omega
   refine KGO ?_
   rw [e1]
   refine KGO ?_
   by_cases h3 : s.docs[k + 1] ≤ s.docs[k]
   ·refine KGO ?_
    refine ⟨zal ?_, hKw⟩
    cases hq : rightS s with
    | false => rfl
    | true =>
     have := of_decide_eq_true ((List.pairwise_iff_getElem.1 (zao.1 hq).1.1) k (k + 1) (by omega) hlt (by omega))
     omega
   ·refine KGO ?_
    refine ⟨k + 1 + 1, ⟨rfl, rfl, rfl, v_int (by simp), trivial⟩, ⟨hK, by omega, hra2, fun j hj h => ?_⟩, by dsimp only; omega⟩
    by_cases hj2 : j + 1 < k + 1
    ·exact hrc j hj hj2
    ·obtain rfl : j = k := by omega
     exact decide_eq_true (by omega)
 have hdok : AscB ltI s.docs ∧ ∀ n ∈ s.docs, 1 ≤ n ∧ n ≤ 1099511627776 := by
  rw [List.take_of_length_le (by omega)] at hra
  exact ⟨zie stoI.tr _ fun j hj => hrc j hj (by omega), hra⟩
 have q1 := Kp.refl wr n_
 clear hrd hra hrc
 refine KGO ?_
 refine Loop.intro (ι := Nat) (fun i => [(1, .pointer (some ⟨b1, 0, none⟩)), (38, .slice ta s.terms.length tc), (39, .int .i64 (s.terms.length : Nat)), (40, .int .i64 (i : Nat))])
  (fun i wr => Kp w1 wr n_ ∧ i ≤ s.terms.length ∧ (∀ t ∈ s.terms.take i, okTerm s.docs t = true) ∧ ∀ j (hj : j + 1 < s.terms.length), j + 1 < i → ltK (s.terms[j]'(by omega)).key s.terms[j + 1].key = true) (fun i => s.terms.length - i) 0 ⟨rfl, rfl, rfl, rfl, trivial⟩ ⟨hK, Nat.zero_le _, by simp, fun j hj h => by omega⟩ ?_
 clear hlt hi hKw hK q1
 rintro i gg wr ⟨hK, hi, hok, hrc⟩
 have hKw := k_w1.trans0 hK
 refine GW ?_
 by_cases hlt : i < s.terms.length
 rotate_left
 ·rw [List.take_of_length_le (by omega)] at hok
  have hall : rightS s = true := zao.2 ⟨hdok, hok, zie (α := Trm) (lt := fun a b => ltK a.key b.key) (fun a b c => stoK.tr _ _ _) _ fun j hj => hrc j hj (by omega)⟩
  refine KGO ?_
  exact ⟨zal hall.symm, hKw⟩
 obtain ⟨g, o, rfl, hg, hat⟩ := hrt (by omega)
 have hsm := hs.x _ (List.getElem_mem hlt)
 have hno : okTerm s.docs s.terms[i] = false → rightS s = false := fun h => by
  cases hq : rightS s with
  | false => rfl
  | true => rw [(zao.1 hq).2.1 _ (List.getElem_mem hlt)] at h; cases h
 refine KGO ?_
 refine Store.fresh (vs := tmC s.terms[i]) (by rfl) rfl (zax (by rfl)) ?_
 obtain ⟨a_b6, k_w2, z_w2⟩ := new3 wr 141 (tmC s.terms[i])
 generalize wr.alloc (.cells (List.toArray (tmC s.terms[i])) 141) = w2 at *
 generalize hs_b6 : wr.heap.size = b6 at *
 have K2 := hKw.trans0 k_w2
 have a_b1' := zam a_b1 (hK.trans0 k_w2)
 have q2 := Kp.refl w2 n_
 have hs1 : (str s.terms[i].word).size = s.terms[i].word.length := rfl
 by_cases f1 : s.terms[i].field ≤ 0
 ·refine KGO ?_
  exact ⟨zal (hno (by unfold okTerm; rw [decide_eq_false (show ¬ (1 ≤ s.terms[i].field ∧ s.terms[i].field ≤ 5) by omega)]; rfl)).symm, K2.drew⟩
 by_cases f2 : 6 ≤ s.terms[i].field
 ·refine KGO ?_
  exact ⟨zal (hno (by unfold okTerm; rw [decide_eq_false (show ¬ (1 ≤ s.terms[i].field ∧ s.terms[i].field ≤ 5) by omega)]; rfl)).symm, K2.drew⟩
 have hfd : decide (1 ≤ s.terms[i].field ∧ s.terms[i].field ≤ 5) = true := decide_eq_true (by omega)
 have hokt : okTerm s.docs s.terms[i] = (decide (wordsOf s.terms[i].word = [s.terms[i].word]) && okList s.docs s.terms[i].list) := by unfold okTerm; rw [hfd]; rfl
 cases i with
 | zero =>
  refine KGO ?_
  have hcons : ∀ j (hj : j + 1 < s.terms.length), j + 1 < 0 + 1 → ltK (s.terms[j]'(by omega)).key s.terms[j + 1].key = true := fun j hj h => by omega
  refine CallS.of (Tryz.call25 _ _) (zdu (w := w2.drew) (str s.terms[0].word) ((hE.keep (K2.trans0 (q2.drew))).c) ((hE.keep (K2.trans0 (q2.drew))).f) (by have := hsm.w; omega)) ?_
  rintro e w4 ⟨v4, rfl, o4, k4⟩
  rw [show listL (L (str s.terms[0].word)) = wordsOf s.terms[0].word from rfl] at o4
  have o4 := zgC o4
  have K4 : Kp w w4 n_ := (K2.trans0 (q2.drew)).trans0 k4
  have J4 : Kp w1 w4 n_ := ((hK.trans0 k_w2).trans0 (q2.drew)).trans0 k4
  have ab6 := zam a_b6 ((q2.drew).trans0 k4)
  have ab1 := zam a_b1 J4
  have q4 := Kp.refl w4 n_
  generalize wordsOf s.terms[0].word = W at *
  obtain ⟨a4, c4, rfl⟩ := zab o4
  have rw4 := zaw o4
  refine RT ?_
  by_cases g1 : W.length = 1
  rotate_left
  ·refine KGO ?_
   exact ⟨zal (hno (by rw [hokt, decide_eq_false (fun h => g1 (by rw [h]; rfl))]; rfl)).symm, K4.drew⟩
  obtain ⟨wd, rfl⟩ := List.length_eq_one_iff.1 g1
  rw [List.length_singleton] at *
  obtain ⟨_, _, e4, hr4⟩ := rw4
  injection e4 with e4 _ _
  subst e4
  obtain ⟨g4, o4', rfl, _, hat4⟩ := hr4 (by simp)
  have c40 : w4.cell? ⟨g4, o4' + 0, none⟩ = some (.string (str wd)) := hat4 0 _ rfl
  by_cases g2 : wd = s.terms[0].word
  rotate_left
  ·have g2' : ¬ str wd = str s.terms[0].word := fun h => g2 (zbY.1 h)
   refine KGO ?_
   exact ⟨zal (hno (by rw [hokt, decide_eq_false (fun h => g2 (by injection h))]; rfl)).symm, K4.drew⟩
  have g2' : str wd = str s.terms[0].word := by rw [g2]
  have hokt2 : okTerm s.docs s.terms[0] = okList s.docs s.terms[0].list := by rw [hokt, decide_eq_true (by rw [g2])]; rfl
  refine KGO ?_
  refine CallS.of (Tryz.call170 _ _) (zhN (w := w4.drew) s.terms[0].list s.docs (hrd0.keep K4.drew) (by omega) hsm.l hdok.1) ?_
  rintro e w5 ⟨rfl, k5⟩
  rw [← hokt2]
  have k45 : Kp w4 w5 n_ := q4.drew.trans0 k5
  refine RT ?_
  cases hq : okTerm s.docs s.terms[0] with
  | false =>
   refine KGO ?_
   exact ⟨zal (hno hq).symm, K4.trans0 k45⟩
  | true =>
   refine KGO ?_
   exact ⟨0 + 1, ⟨rfl, rfl, rfl, v_int (by simp), trivial⟩, ⟨J4.trans0 k45, by omega, fun t ht => by
    rw [List.take_succ_eq_append_getElem hlt, List.mem_append, List.mem_singleton] at ht
    rcases ht with ht | rfl
    ·exact hok t ht
    ·exact hq, fun j hj h => hcons j hj (by omega)⟩, by dsimp only; omega⟩
 | succ k =>
  have e1 : (((k + 1 : Nat) : Int) - 1).toNat = k := by omega
  refine KGO ?_
  simp only [e1]
  refine CallS.of (Tryz.call144 _ _) (zkO (w := w2.drew) s.terms[k] s.terms[k + 1]) ?_
  rintro e w3 ⟨rfl, k3⟩
  refine RT ?_
  have k23 : Kp w2 w3 n_ := q2.drew.trans0 k3
  have q3 := Kp.refl w3 n_
  by_cases hc : cmpT s.terms[k] s.terms[k + 1] < 0
  ·refine KGO ?_
   have hcons : ∀ j (hj : j + 1 < s.terms.length), j + 1 < (k + 1) + 1 → ltK (s.terms[j]'(by omega)).key s.terms[j + 1].key = true := fun j hj h => by
    by_cases hj2 : j + 1 < k + 1
    ·exact hrc j hj hj2
    ·obtain rfl : j = k := by omega
     exact (zeO _ _).1 hc
   refine CallS.of (Tryz.call25 _ _) (zdu (w := w3) (str s.terms[k + 1].word) ((hE.keep (K2.trans0 k23)).c) ((hE.keep (K2.trans0 k23)).f) (by have := hsm.w; omega)) ?_
   rintro e w4 ⟨v4, rfl, o4, k4⟩
   rw [show listL (L (str s.terms[k + 1].word)) = wordsOf s.terms[k + 1].word from rfl] at o4
   have o4 := zgC o4
   have K4 : Kp w w4 n_ := (K2.trans0 k23).trans0 k4
   have J4 : Kp w1 w4 n_ := ((hK.trans0 k_w2).trans0 k23).trans0 k4
   have ab6 := zam a_b6 (k23.trans0 k4)
   have ab1 := zam a_b1 J4
   have q4 := Kp.refl w4 n_
   generalize wordsOf s.terms[k + 1].word = W at *
   obtain ⟨a4, c4, rfl⟩ := zab o4
   have rw4 := zaw o4
   refine RT ?_
   by_cases g1 : W.length = 1
   rotate_left
   ·refine KGO ?_
    exact ⟨zal (hno (by rw [hokt, decide_eq_false (fun h => g1 (by rw [h]; rfl))]; rfl)).symm, K4.drew⟩
   obtain ⟨wd, rfl⟩ := List.length_eq_one_iff.1 g1
   rw [List.length_singleton] at *
   obtain ⟨_, _, e4, hr4⟩ := rw4
   injection e4 with e4 _ _
   subst e4
   obtain ⟨g4, o4', rfl, _, hat4⟩ := hr4 (by simp)
   have c40 : w4.cell? ⟨g4, o4' + 0, none⟩ = some (.string (str wd)) := hat4 0 _ rfl
   by_cases g2 : wd = s.terms[k + 1].word
   rotate_left
   ·have g2' : ¬ str wd = str s.terms[k + 1].word := fun h => g2 (zbY.1 h)
    refine KGO ?_
    exact ⟨zal (hno (by rw [hokt, decide_eq_false (fun h => g2 (by injection h))]; rfl)).symm, K4.drew⟩
   have g2' : str wd = str s.terms[k + 1].word := by rw [g2]
   have hokt2 : okTerm s.docs s.terms[k + 1] = okList s.docs s.terms[k + 1].list := by rw [hokt, decide_eq_true (by rw [g2])]; rfl
   refine KGO ?_
   refine CallS.of (Tryz.call170 _ _) (zhN (w := w4.drew) s.terms[k + 1].list s.docs (hrd0.keep K4.drew) (by omega) hsm.l hdok.1) ?_
   rintro e w5 ⟨rfl, k5⟩
   rw [← hokt2]
   have k45 : Kp w4 w5 n_ := q4.drew.trans0 k5
   refine RT ?_
   cases hq : okTerm s.docs s.terms[k + 1] with
   | false =>
    refine KGO ?_
    exact ⟨zal (hno hq).symm, K4.trans0 k45⟩
   | true =>
    refine KGO ?_
    exact ⟨k + 1 + 1, ⟨rfl, rfl, rfl, v_int (by simp), trivial⟩, ⟨J4.trans0 k45, by omega, fun t ht => by
     rw [List.take_succ_eq_append_getElem hlt, List.mem_append, List.mem_singleton] at ht
     rcases ht with ht | rfl
     ·exact hok t ht
     ·exact hq, fun j hj h => hcons j hj (by omega)⟩, by dsimp only; omega⟩
  ·refine KGO ?_
   refine ⟨zal ?_, K2.trans0 k23⟩
   cases hq : rightS s with
   | false => rfl
   | true => exact absurd ((zeO _ _).2 ((List.pairwise_iff_getElem.1 (zao.1 hq).2.2) k (k + 1) (by omega) hlt (by omega))) hc
end
end Go.Proofs.YtennokckmjcefaaGreatDoor
namespace Go.Proofs.YtennokckmjcefaaGreatDoor
open Go.RowKit Go.Pw Go.Vc Go.Cs Go.Lib
section
end
end Go.Proofs.YtennokckmjcefaaGreatDoor
namespace Go.Cs
open Go.Lib
end Go.Cs
namespace Go.Proofs.YtennokckmjcefaaGreatDoor
open Go.RowKit Go.Pw Go.Vc Go.Cs Go.Lib
section
end
section
end
section
end
section
end
end Go.Proofs.YtennokckmjcefaaGreatDoor
namespace Go.Cs
open Go.Lib
abbrev M40 : Int := 1099511627776
structure FitP (A : Acc) (m : Ml) : Prop where
 id : 1 ≤ m.id ∧ m.id ≤ A.nm - 1
 ne : m.boxes ≠ []
 asc : AscB ltI m.boxes
 there : ∀ b ∈ m.boxes, hasId A.boxes b = true
 fl : m.flags.length ≤ 20
 fasc : AscB ltT m.flags
 fok : ∀ f ∈ m.flags, flagB f = true
 at_ : 0 ≤ m.at_ ∧ m.at_ ≤ M40
 size : 0 ≤ m.size ∧ m.size ≤ 65536
 mod : 0 ≤ m.mod ∧ m.mod ≤ A.st
structure GoodQ (A : Acc) : Prop where
 nm : 1 ≤ A.nm ∧ A.nm ≤ M40
 nb : 1 ≤ A.nb ∧ A.nb ≤ M40
 st : 0 ≤ A.st
 bx : RightP A.boxes
 bid : ∀ b ∈ A.boxes, b.id < A.nb
 ml : A.mails.length ≤ 4096
 asc : A.mails.Pairwise fun x y => x.id < y.id
 fit : ∀ m ∈ A.mails, FitP A m
 sl : A.scripts.length ≤ 16
 sasc : AscS A.scripts
 src : ∀ s ∈ A.scripts, srcB s = true
 nl : A.seen.length ≤ 256
 key : ∀ s ∈ A.seen, s.key.length ≤ 1000 ∧ 0 ≤ s.at_ ∧ s.at_ ≤ M40
 knd : (A.seen.map (·.key)).Nodup
 act : A.active = [] ∨ hasS A.scripts A.active = true
section
variable {A : Acc} {o : Opr}
theorem FitP.mono {A A' : Acc} {m : Ml} (h : FitP A m) (h1 : A.nm ≤ A'.nm) (h2 : A.st ≤ A'.st) (h3 : ∀ b, hasId A.boxes b = true → hasId A'.boxes b = true) : FitP A' m :=
 ⟨by have := h.id; omega, h.ne, h.asc, fun b hb => h3 b (h.there b hb), h.fl, h.fasc, h.fok, h.at_, h.size, by have := h.mod; omega⟩
theorem GoodQ.mails (g : GoodQ A) {l : List Ml} (h1 : l.length ≤ 4096) (h2 : l.Pairwise fun x y => x.id < y.id) (h3 : ∀ m ∈ l, FitP A m) : GoodQ { A with mails := l } :=
 ⟨g.nm, g.nb, g.st, g.bx, g.bid, h1, h2, fun m hm => (h3 m hm).mono (Int.le_refl _) (Int.le_refl _) fun _ h => h, g.sl, g.sasc, g.src, g.nl, g.key, g.knd, g.act⟩
theorem GoodQ.boxes (g : GoodQ A) {l : List Bx} (h1 : RightP l) (h2 : ∀ b ∈ l, b.id < A.nb) (h3 : ∀ i, hasId A.boxes i = true → hasId l i = true) : GoodQ { A with boxes := l } :=
 ⟨g.nm, g.nb, g.st, h1, h2, g.ml, g.asc, fun m hm => (g.fit m hm).mono (Int.le_refl _) (Int.le_refl _) h3, g.sl, g.sasc, g.src, g.nl, g.key, g.knd, g.act⟩
end
section
variable {A : Acc} {o : Opr} {r : Acc × Int}
theorem zcp {l : List Int} (h : AscB ltI l) : l.Nodup := h.imp fun {a b} h e => by subst e; rw [stoI.irr] at h; cases h
end
section
variable {A : Acc} {o : Opr} {r : Acc × Int}
theorem GoodQ.scripts (g : GoodQ A) {l : List Sc} (h1 : l.length ≤ 16) (h2 : AscS l) (h3 : ∀ s ∈ l, srcB s = true) (h4 : A.active = [] ∨ hasS l A.active = true) : GoodQ { A with scripts := l } :=
 ⟨g.nm, g.nb, g.st, g.bx, g.bid, g.ml, g.asc, fun m hm => (g.fit m hm).mono (Int.le_refl _) (Int.le_refl _) fun _ h => h, h1, h2, h3, g.nl, g.key, g.knd, h4⟩
end
end Go.Cs
namespace Go.Proofs.YtennokckmjcefaaGreatDoor
open Go.Shelf Go.RowKit Go.Pw Go.Vc Go.Cs Go.Lib
section
end
end Go.Proofs.YtennokckmjcefaaGreatDoor
namespace Go.Proofs.YtennokckmjcefaaGreatDoor
open Go.Shelf Go.RowKit Go.Pw Go.Vc Go.Cs Go.Lib Go.Cd Go.Mg
section
variable {w : World}
theorem zbv (t : Trm) (hl : t.list.length ≤ 10000000) : Calls Tryz.prog 235 #[.agg (tmC t).toArray] w fun e w' => ∃ v, e = .returned v ∧ OwnP w' w.heap.size v ((decP t.list).getD []) ∧ Kp w w' n_ := by
 refine zaa (args := [.agg (tmC t).toArray]) Tryz.func235 rfl NL ?_; refine GW ?_
 obtain ⟨a_b1, v_b1, k_w1, z_w1, r_w1⟩ := new5 w 141 (tmC t)
 generalize w.alloc (.cells (List.toArray (tmC t)) 141) = w1 at *
 generalize hs_b1 : w.heap.size = b1 at *
 refine KGO ?_
 refine CallS.of (Tryz.call167 _ _) (zdw (w := w1) t.list hl) ?_
 rintro e w2 ⟨⟨v, rfl, hv, hno⟩, k2⟩
 obtain ⟨a, c, rfl⟩ := hv.shape
 refine RT ?_
 exact ⟨_, rfl, hv.base (by omega), k_w1.trans0 k2⟩
theorem build0S (w : World) : (Instr.build 65 [].toArray).run Tryz.prog w = .ok (.agg #[.slice none 0 0, .slice none 0 0]) w := by
 simp [Instr.build, Instr.fill, go_sem, Tryz.runUnderlying65]
theorem zpM (w : World) : RdS w ⟨⟨none, 0, 0⟩, ⟨none, 0, 0⟩⟩ ⟨[], []⟩ := ⟨⟨none, 0, rfl, fun h => by simp at h⟩, ⟨none, 0, rfl, fun h => by simp at h⟩, fun a n c e => by injection e with _ e1 e2; subst e1; exact Nat.zero_le _, fun a n c e => by injection e with _ e1 e2; subst e1; exact Nat.zero_le _⟩
theorem zje (h : Sv) (s : Sgm) (hr : RdS w h s) (hs : SmS s) (hE : CEnv w) : Calls Tryz.prog 195 #[.agg (sgC h).toArray] w fun e w' => ∃ h', e = .returned (.agg (sgC h').toArray) ∧ (∀ w0, RdS w0 h s → RdS w0 h' (validS s)) ∧ Kp w w' n_ := by
 refine zaa (args := [.agg (sgC h).toArray]) Tryz.func195 rfl NL ?_; refine GW ?_
 obtain ⟨a_b1, v_b1, k_w1, z_w1, r_w1⟩ := new5 w 65 (sgC h)
 generalize w.alloc (.cells (List.toArray (sgC h)) 65) = w1 at *
 generalize hs_b1 : w.heap.size = b1 at *
 obtain ⟨a_b2, v_b2, k_w2, z_w2, r_w2⟩ := new5 w1 65 ([.slice none 0 0, .slice none 0 0])
 generalize w1.alloc (.cells (List.toArray ([.slice none 0 0, .slice none 0 0])) 65) = w2 at *
 generalize hs_b2 : w1.heap.size = b2 at *
 have K2 : Kp w w2 n_ := k_w1.trans0 k_w2
 have a1 := zam a_b1 k_w2
 clear a_b1
 refine KGO ?_
 refine CallS.of (Tryz.call116 _ _) (zjW (w := w2) h s (hr.keep K2) hs (hE.keep K2)) ?_
 rintro e w3 ⟨rfl, k3⟩
 have K3 := K2.trans0 k3
 have v3 := v_b2.keep0 k3
 have z3 := k_w1.size
 refine RT ?_
 unfold validS
 cases hq : rightS s with
 | false =>
  refine KGO ?_
  refine RunV.of (build0S _) ?_
  refine KGO ?_
  refine Store.varK [.slice none 0 0, .slice none 0 0] v3 (by rfl) rfl (zax (by rfl)) fun w4 v4 k4 => ?_
  have a4 := v4.at
  have q4 := Kp.refl w4 n_
  refine KGO ?_
  refine GW ?_
  exact ⟨⟨⟨none, 0, 0⟩, ⟨none, 0, 0⟩⟩, rfl, fun w0 _ => zpM _, zah K3 k4 (by omega)⟩
 | true =>
  refine KGO ?_
  refine SVK (sgC h) v3 fun w4 v4 k4 => ?_
  have a4 := v4.at
  have q4 := Kp.refl w4 n_
  have K4 := zah K3 k4 (by omega)
  refine KGO ?_
  refine GW ?_
  exact ⟨h, rfl, fun w0 r => r, K4⟩
end
abbrev OwnPr (w : World) (B : Nat) (v : Value) (l : List Pr) : Prop := w.ownsRow B 44 2 v l.length (l.flatMap prC)
theorem zqu {w : World} {v : Value} (l : List Pr) (g : Nat) (c0 : Value) (p : Pr → Bool) (hv : RowO w v prC l) (hl : l.length ≤ 1000000000) (hg : ∀ (args : Array Value) (w : World), (callFunc g args).run Tryz.prog w = .ok (.enter g args) w)
  (hp : ∀ x ∈ l, ∀ w', Kp w w' n_ → Calls Tryz.prog g #[.agg (prC x).toArray, c0] w' fun e w'' => e = .returned (.bool (p x)) ∧ Kp w' w'' n_) :
  Calls Tryz.prog 178 #[v, .func (.func g) #[] #[c0]] w fun e w' => e = .returned (.int .i64 (idxP p l)) ∧ Kp w w' n_ := by
 obtain ⟨a, cap, rfl, hr⟩ := hv
 refine zaa (args := [.slice a l.length cap, .func (.func g) #[] #[c0]]) Tryz.func178 rfl NL ?_; refine GW ?_
 refine Loop.intro (ι := Nat) (fun i => [(0, .slice a l.length cap), (1, .func (.func g) #[] #[c0]), (7, .int .i64 (l.length : Nat)), (8, .int .i64 (i : Nat))])
  (fun i wr => Kp w wr n_ ∧ i ≤ l.length ∧ ∀ j (h : j < l.length), j < i → p l[j] = false) (fun i => l.length - i) 0 ⟨rfl, rfl, rfl, rfl, trivial⟩ ⟨Kp.refl _ _, Nat.zero_le _, fun _ _ h => by omega⟩ ?_
 rintro i gg wr ⟨hK, hi, he⟩
 refine GW ?_
 by_cases hlt : i < l.length
 ·obtain ⟨gb, o, rfl, hgb, hat⟩ := hr (by omega)
  have hpc := hp l[i] (List.getElem_mem hlt) wr hK
  obtain ⟨q, hq⟩ : ∃ q, p l[i] = q := ⟨_, rfl⟩
  rw [hq] at hpc
  refine KGO ?_
  refine CallS.of (hg _ _) hpc ?_
  rintro e w1 ⟨rfl, k1⟩
  refine RT ?_
  cases q with
  | true =>
   refine KGO ?_
   exact ⟨by rw [zdo hlt hq he], hK.trans0 k1⟩
  | false =>
   refine KGO ?_
   exact ⟨i + 1, ⟨rfl, rfl, rfl, v_int (by simp), trivial⟩, ⟨hK.trans0 k1, by omega, fun j h hj => by
    rcases Nat.lt_or_ge j i with h' | h'
    ·exact he j h h'
    ·obtain rfl : j = i := by omega
     exact hq⟩, by dsimp only; omega⟩
 ·refine KGO ?_
  exact ⟨by rw [zdJ fun j h => he j h (by omega)], hK⟩
theorem zpf {w : World} {v : Value} {B : Nat} (l : List Pr) (g : Nat) (c0 : Value) (p : Pr → Bool) (ho : OwnPr w B v l) (hl : l.length ≤ 1000000000) (hg : ∀ (args : Array Value) (w : World), (callFunc g args).run Tryz.prog w = .ok (.enter g args) w)
  (hp : ∀ x ∈ l, ∀ w', Kp w w' (own_ v) → Calls Tryz.prog g #[.agg (prC x).toArray, c0] w' fun e w'' => e = .returned (.bool (p x)) ∧ Kp w' w'' n_) :
  Calls Tryz.prog 126 #[v, .func (.func g) #[] #[c0]] w fun e w' => ∃ v', e = .returned v' ∧ OwnPr w' B v' (l.filter fun x => !p x) ∧ Kp w w' (own_ v) ∧ (v'.ownBlock = v.ownBlock) := by
 obtain ⟨a, cap0, rfl⟩ := zab ho
 refine zaa (args := [.slice a l.length cap0, .func (.func g) #[] #[c0]]) Tryz.func126 rfl NL ?_; refine GW ?_
 refine CallS.of (Tryz.call178 _ _) (zqu l g c0 p (zaw ho) hl hg (fun x hx w' k => hp x hx w' k.of_none)) ?_
 rintro e w1 ⟨rfl, k1⟩
 refine RT ?_
 rcases idxP_lt p l with hi | ⟨i0, hi0, he0, hp0, hb0⟩
 ·rw [hi]
  refine KGO ?_
  refine ⟨_, rfl, ?_, k1.of_none, rfl⟩
  have hf : (l.filter fun x => !p x) = l := List.filter_eq_self.2 fun x hx => by
   have h : ¬ l.any p = true := fun h => by have := (zew p l).2 h; omega
   have := List.any_eq_false.1 (by simpa using h) x hx
   simpa using this
  rw [hf]
  exact zac ho k1
 rw [he0]
 rcases own_blockK ho with ⟨hnil, h0⟩ | ⟨gb, cap, cells0, hev, hBg, hv0, hnc, hcm, hcl0, htk0⟩
 ·omega
 injection hev with hev _ hcc
 subst hev; subst hcc
 have hgk : gb < w1.heap.size := Nat.lt_of_lt_of_le hv0.lt k1.size
 have ho1 := zac ho k1
 have hfl0 : ((l.take (i0 + 1)).filter fun x => !p x) = l.take i0 := by
  rw [zcr hi0, hp0]
  have : (l.take i0).filter (fun x => !p x) = l.take i0 := List.filter_eq_self.2 fun x hx => by
   obtain ⟨j, hj, rfl⟩ := List.mem_take_iff_getElem.1 hx
   rw [hb0 j (by omega)]; rfl
  rw [this]; simp
 refine KGO ?_
 refine Loop.intro (ι := Nat × Nat × List Pr) (fun q => [(0, .slice (some ⟨gb, 0, none⟩) l.length cap0), (1, .func (.func g) #[] #[c0]), (5, .int .i64 (q.1 : Nat)), (6, .int .i64 (q.2.1 : Nat))])
  (fun q wr => Kp w wr (one_ gb) ∧ q.2.1 ≤ l.length ∧ q.1 < q.2.1 ∧ q.2.2.length = l.length ∧ q.2.2.take q.1 = ((l.take q.2.1).filter fun x => !p x) ∧ q.2.2.drop q.2.1 = l.drop q.2.1 ∧ OwnPr wr B (.slice (some ⟨gb, 0, none⟩) q.2.2.length cap0) q.2.2)
  (fun q => l.length - q.2.1) (i0, i0 + 1, l) ⟨rfl, rfl, rfl, v_int (by simp), trivial⟩ ⟨k1.of_none, by dsimp only; omega, by dsimp only; omega, rfl, by dsimp only; rw [hfl0], rfl, ho1⟩ ?_
 clear ho1 hfl0 hb0 hp0 he0 hi0 i0
 rintro ⟨i, j, cur⟩ gg wr ⟨hK, hj, hij, hcl2, htk2, hdr2, ho2⟩
 dsimp only at hj hij hcl2 htk2 hdr2 ho2 ⊢
 rcases own_blockK ho2 with ⟨h, h0⟩ | ⟨g2, cap, cells, hev, hBg2, hv, hnc2, hcm2, hcl, htk⟩
 ·cases h
 injection hev with hev _ hcc
 injection hev with hev
 injection hev with hev
 subst hev; subst hcc
 have hrow := zds ho2
 have kr := Kp.refl wr n_
 refine GW ?_
 by_cases hlt : j < l.length
 ·have hcj : cur[j]'(by omega) = l[j] := by
   have h1 : (cur.drop j)[0]? = (l.drop j)[0]? := by rw [hdr2]
   rw [List.getElem?_drop, List.getElem?_drop, Nat.add_zero, List.getElem?_eq_getElem (by omega), List.getElem?_eq_getElem hlt] at h1
   exact Option.some.inj h1
  have hfs := zcr (p := fun x => !p x) hlt
  have hjc : j < cur.length := by omega
  obtain ⟨q, hq⟩ : ∃ q, p l[j] = q := ⟨_, rfl⟩
  have hmx := List.getElem_mem hlt
  rw [hq] at hfs
  refine KGO ?_
  rw [hcj]
  generalize hxj : l[j] = x at *
  refine Store.fresh (vs := prC x) (by rfl) rfl (zax (by rfl)) ?_
  obtain ⟨a_b7, k_wv, z_wv⟩ := new3 wr 44 (prC x)
  generalize wr.alloc (.cells (List.toArray (prC x)) 44) = wv at *
  generalize hs_b7 : wr.heap.size = b7 at *
  refine KGO ?_
  have hpc := hp x hmx wv ((hK.trans0 k_wv).mono fun q _ hq => by have hq : q = gb := hq; rw [hq]; rfl)
  rw [hq] at hpc
  refine CallS.of (hg _ _) hpc ?_
  rintro e w1 ⟨rfl, k1⟩
  refine RT ?_
  cases q with
  | true =>
   refine KGO ?_
   refine ⟨(i, j + 1, cur), ⟨rfl, rfl, rfl, v_int (by simp), trivial⟩, ⟨(hK.trans0 k_wv).trans0 k1, by dsimp only; omega, by dsimp only; omega, hcl2, ?_, ?_, zac (zac ho2 k_wv) k1⟩, by dsimp only; omega⟩
   ·dsimp only
    rw [hfs, htk2]; simp
   ·dsimp only
    rw [← List.drop_drop, hdr2, List.drop_drop]
  | false =>
   refine KGO ?_
   have hv := (hv.keep0 k_wv).keep0 k1
   refine Store.elemK (l := cur) (k := i) (B := B) (cap := cap0) x lenPr (by rfl) (zax (by rfl)) hv hBg (by omega) hcm hcl htk (by omega) fun w2 o2 v2 k2 => ?_
   refine KGO ?_
   have hil : i < cur.length := by omega
   refine ⟨(i + 1, j + 1, cur.set i x), ⟨rfl, rfl, v_int (by simp), v_int (by simp), trivial⟩, ⟨(hK.trans0 k_wv).trans' (k1.of_none.trans' k2), by dsimp only; omega, by dsimp only; omega, by dsimp only; rw [List.length_set]; exact hcl2, ?_, ?_, ?_⟩, by dsimp only; omega⟩
   ·dsimp only
    rw [hfs, ← htk2, List.take_succ_eq_append_getElem (by rw [List.length_set]; exact hil), List.getElem_set_self, List.take_set_of_le (Nat.le_refl _)]
    simp
   ·dsimp only
    rw [List.drop_set_of_lt (by omega), ← List.drop_drop, hdr2, List.drop_drop]
   ·dsimp only
    unfold OwnPr
    rw [List.length_set]
    exact o2
 ·have hjl : j = l.length := by omega
  subst hjl
  rw [List.take_length] at htk2
  have hil : i < cur.length := by omega
  refine KGO ?_
  rw [if_neg (by omega : ¬ i = cap0)]
  refine RunN.clearK (s := 2) (n := l.length - i) Tryz.underlying37 infoPr rfl (by intro u hu; simp [Value.cells] at hu; first | (subst hu; rfl) | (rcases hu with rfl | rfl <;> rfl)) hv (by first | (rw [hcl]; omega) | omega) fun w3 zs hzl v3 k3 => ?_
  refine KGO ?_
  have hle : (l.filter fun x => !p x).length = i := by rw [← htk2, List.length_take]; omega
  rw [if_neg (by omega : ¬ 0 = cap0), Nat.sub_zero, Nat.sub_zero]
  refine ⟨_, rfl, ?_, ((hK.trans' k3).mono fun q _ hq => by have hq : q = gb := hq; rw [hq]; rfl), rfl⟩
  have htA : cells.take (0 + i * 2) = (l.filter fun x => !p x).flatMap prC := by
   rw [Nat.zero_add, ← htk2, ← zbK prC 2 lenPr, ← htk, List.take_take, Nat.min_eq_left (by omega)]
  have hlA : ((l.filter fun x => !p x).flatMap prC).length = i * 2 := by rw [zaW prC 2 lenPr, hle]
  first | rw [htA] at v3 | (rw [show 0 + i * 2 = 0 + i by omega] at htA; rw [htA] at v3)
  unfold OwnPr
  rw [hle]
  refine zbZ hBg v3 (by omega) hcm2 ?_ ?_ hlA
  ·rw [List.length_append, List.length_append, hlA, hzl, List.length_drop]; omega
  ·rw [List.append_assoc, ← hlA, List.take_left]
section
variable {w : World}
theorem zpZ {f : Fr} {y : Operand} (w : World) (hy : ev f y = .int .i64 ((0 : Nat) : Int) := by rfl) : (Instr.sliceAt 40 (.slice none 0 0) none ((some y).map (ev f)) none).run Tryz.prog w = .ok (.slice none 0 0) w := by
 obtain ⟨i, hi, _, hs, _⟩ := zcX infoI
 simp [Instr.sliceAt, hy, Instr.slice, Instr.sliceBounds, go_sem, zat Tryz.underlying40, zca hi]
theorem gr_I (n : Nat) (hn : n ≤ 8796093022208) : Calls Tryz.prog 232 #[.slice none 0 0, .int .i64 (n : Nat)] w fun e w' => ∃ v, e = .returned v ∧ OwnI w' w.heap.size v [] ∧ Kp w w' n_ := by
 refine zaa (args := [.slice none 0 0, .int .i64 (n : Nat)]) Tryz.func232 rfl NL ?_; refine GW ?_
 refine KGO ?_
 refine RunN.capK Tryz.underlying40 ?_
 rcases Nat.eq_zero_or_pos n with h0 | h0
 ·subst h0
  refine KGO ?_
  exact ⟨_, rfl, World.ownsRow_nil _ _ _ _, Kp.refl _ _⟩
 ·refine KGO ?_
  refine RunN.capK Tryz.underlying40 ?_
  refine KGO ?_
  refine RunV.of (v := .slice none 0 0) (w' := w) (zpZ _) ?_
  refine KGO ?_
  rw [show ((n : Nat) : Int) - (((0 : Nat) : Int) - ((0 : Nat) : Int)) = ((n : Nat) : Int) by omega]
  refine RunN.zeros0 Tryz.underlying40 Tryz.underlying3 infoI rfl (by decide) h0 (by omega) (by omega) fun w1 cells c1 v1 hl1 hc1 hm1 k1 => ?_
  refine KGO ?_
  rw [if_neg (by omega : ¬ 0 = c1), Nat.sub_zero, Nat.sub_zero]
  exact ⟨_, rfl, zbZ (xs := []) (Nat.le_refl _) v1 (Nat.zero_le _) hm1 hl1 (by simp) rfl, k1⟩
abbrev slCI (p : Sl × List Int) : List Value := [.slice p.1.a p.1.n p.1.c]
theorem zpi {g o i : Nat} {l : List (Sl × List Int)} (h : At w g o (l.flatMap slCI)) (hi : i < l.length) : w.cell? ⟨g, o + i, none⟩ = some (.slice l[i].1.a l[i].1.n l[i].1.c) := zmr (fun p : Sl × List Int => Value.slice p.1.a p.1.n p.1.c) h hi
theorem cat_I {v : Value} (ps : List (Sl × List Int)) (hv : RowO w v slCI ps) (hp : ∀ p ∈ ps, RowI w p.1.v p.2) (hl : ps.length ≤ 1000) (hn : (ps.flatMap (·.2)).length ≤ 8796093022208) : Calls Tryz.prog 196 #[v] w fun e w' => ∃ v', e = .returned v' ∧ OwnI w' w.heap.size v' (ps.flatMap (·.2)) ∧ Kp w w' n_ := by
 obtain ⟨a, cap, rfl, hr⟩ := hv
 have hstep : ∀ i (h : i < ps.length), (ps.take (i + 1)).flatMap (·.2) = (ps.take i).flatMap (·.2) ++ ps[i].2 := fun i h => by
  rw [List.take_succ_eq_append_getElem h, List.flatMap_append]; simp
 have hle : ∀ i, ((ps.take i).flatMap (·.2)).length ≤ (ps.flatMap (·.2)).length := fun i => by
  conv => rhs; rw [← List.take_append_drop i ps, List.flatMap_append, List.length_append]
  omega
 refine zaa (args := [.slice a ps.length cap]) Tryz.func196 rfl NL ?_; refine GW ?_
 refine Loop.intro (ι := Nat) (fun i => [(0, .slice a ps.length cap), (3, .int .i64 (((ps.take i).flatMap (·.2)).length : Nat)), (9, .slice a ps.length cap), (10, .int .i64 (ps.length : Nat)), (11, .int .i64 (i : Nat))])
  (fun i wr => w = wr ∧ i ≤ ps.length) (fun i => ps.length - i) 0 ⟨rfl, rfl, rfl, rfl, rfl, trivial⟩ ⟨rfl, Nat.zero_le _⟩ ?_
 rintro i gg wr ⟨rfl, hi⟩
 have kr := Kp.refl w n_
 refine GW ?_
 by_cases hlt : i < ps.length
 ·obtain ⟨gb, o, rfl, hgb, hat⟩ := hr (by omega)
  have hc := zpi hat hlt
  have hst := hstep i hlt
  have h1 := hle i
  have h2 := hle (i + 1)
  have hln := RowO.len (hp ps[i] (List.getElem_mem hlt))
  rw [hst, List.length_append] at h2
  refine KGO ?_
  rw [hln]
  refine KGO ?_
  refine ⟨i + 1, ⟨rfl, v_int (by rw [hst, List.length_append]; omega), rfl, rfl, v_int (by simp), trivial⟩, ⟨rfl, by omega⟩, by dsimp only; omega⟩
 ·have hil : ps.take i = ps := List.take_of_length_le (by omega)
  rw [hil]
  generalize hN : (ps.flatMap (·.2)).length = N at *
  refine KGO ?_
  refine CallS.of (Tryz.call232 _ _) (gr_I (w := w) N (by omega)) ?_
  rintro e w1 ⟨v1, rfl, o1, k1⟩
  obtain ⟨a1, c1, rfl⟩ := zab o1
  refine RT ?_
  refine KGO ?_
  refine Loop.intro (ι := Nat × Value) (fun q => [(6, q.2), (25, .slice a ps.length cap), (26, .int .i64 (ps.length : Nat)), (27, .int .i64 (q.1 : Nat))])
   (fun q wr => Kp w wr n_ ∧ q.1 ≤ ps.length ∧ OwnI wr w.heap.size q.2 ((ps.take q.1).flatMap (·.2))) (fun q => ps.length - q.1) (0, _) ⟨rfl, rfl, rfl, rfl, trivial⟩ ⟨k1, Nat.zero_le _, o1⟩ ?_
  rintro ⟨j, u⟩ gg2 wz ⟨hK, hj, ho⟩
  dsimp only at hj ho ⊢
  obtain ⟨au, cu, rfl⟩ := zab ho
  refine GW ?_
  by_cases hlt2 : j < ps.length
  ·obtain ⟨gb, o, rfl, hgb, hat⟩ := hr (by omega)
   have hc := zpi hat hlt2
   have hst := hstep j hlt2
   have h1 := hle j
   have h2 := hle (j + 1)
   have hrow := (hp ps[j] (List.getElem_mem hlt2)).keep hK
   have hln := RowO.len hrow
   rw [hst, List.length_append] at h2
   obtain ⟨sa, sc, he, hrr⟩ := hrow
   have hea : ps[j].1.a = sa := by injection he
   refine KGO ?_
   rw [hln, hea]
   have fin : ∀ v' w', w'.ownsRow w.heap.size 3 1 v' (((ps.take j).flatMap (·.2)).length + ps[j].2.length) ((ps.take j).flatMap (·.2) |>.flatMap inC |>.append (ps[j].2.flatMap inC)) → OwnI w' w.heap.size v' ((ps.take (j + 1)).flatMap (·.2)) := fun v' w' h => by
    unfold OwnI
    rw [hst, List.length_append, List.flatMap_append]
    exact h
   rcases sa with _ | ad
   ·have h0 : ps[j].2.length = 0 := by
     rcases Nat.eq_zero_or_pos ps[j].2.length with h | h
     ·exact h
     ·obtain ⟨g, o, h1, _⟩ := hrr h; cases h1
    rw [h0]
    refine RunN.appNone Tryz.underlying40 infoI ho ?_
    refine KGO ?_
    exact ⟨(j + 1, _), ⟨rfl, rfl, rfl, v_int (by simp), trivial⟩, ⟨hK, by dsimp only; omega, by dsimp only; rw [hst, List.eq_nil_of_length_eq_zero h0, List.append_nil]; exact ho⟩, by dsimp only; omega⟩
   ·refine RunN.app Tryz.underlying40 infoI rfl (by decide) ho hK.size ad ps[j].2.length _ (ps[j].2.flatMap inC) (zaW inC 1 lenI _) (fun m x hm => ?_) (oneI _) (by omega) (by omega) fun v' w' h2 h3 => ?_
    ·rcases Nat.eq_zero_or_pos ps[j].2.length with h | h
     ·rw [List.eq_nil_of_length_eq_zero h] at hm; simp at hm
     ·obtain ⟨g', o', h1, _, h3⟩ := hrr h
      injection h1 with h1
      subst h1
      rw [zaS]
      exact h3 m x hm
    ·obtain ⟨a', c', rfl⟩ := zab h2
     refine KGO ?_
     exact ⟨(j + 1, _), ⟨rfl, rfl, rfl, v_int (by simp), trivial⟩, ⟨hK.own ho (Nat.le_refl _) h3, by dsimp only; omega, fin _ _ h2⟩, by dsimp only; omega⟩
  ·have hjl : ps.take j = ps := List.take_of_length_le (by omega)
   rw [hjl] at ho ⊢
   refine KGO ?_
   exact ⟨_, rfl, ho, hK⟩
end
end Go.Proofs.YtennokckmjcefaaGreatDoor
