/- Helper text of this claim: lemmas and contracts that the proved statement rests on; no conditions of its own. -/
import Derived.Lib.Split
import Derived.Lib.SplitLaws
import Derived.Lib.IndexLaws
import Derived.Lib.IndexBytes
import Derived.Shelf.Strings.SplitCore
import Derived.Shelf.Strings.Search3
import Derived.Shelf.Strings.Count
import Derived.Test.YtcdpocffoapbeaaGreatDoorGMg6
namespace Go.Proofs.YtcdpocffoapbeaaGreatDoor
set_option linter.unusedVariables false
set_option maxHeartbeats 8000000
open Go.Shelf Go.RowKit Go.Pw Go.Vc Go.Cs Go.Lib Go.Cd Go.Mg
set_option linter.unusedVariables false
set_option maxRecDepth 100000
theorem zgD {w : World} {B : Nat} {v : Value} {l : List (List UInt8)} (h : Txs w B v l) : OwnT w B v l := by
 have e : ∀ l : List (List UInt8), l.flatMap txC = l.map sv := fun l => by
  induction l with
  | nil => rfl
  | cons a l ih => rw [List.flatMap_cons, List.map_cons, ih]; rfl
 unfold OwnT
 rw [e l]; exact h
structure Sv where
 t : Sl
 d : Sl
instance : Inhabited Sv := ⟨⟨⟨none, 0, 0⟩, ⟨none, 0, 0⟩⟩⟩
def sgC (h : Sv) : List Value := [.slice h.t.a h.t.n h.t.c, .slice h.d.a h.d.n h.d.c]
structure RdS (w : World) (h : Sv) (s : Sgm) : Prop where
 t : RowO w h.t.v tmC s.terms
 d : RowI w h.d.v s.docs
 tc : CapK h.t.v
 dc : CapK h.d.v
theorem RdS.keep {w w' : World} {h : Sv} {s : Sgm} (r : RdS w h s) (k : Kp w w' n_) : RdS w' h s := ⟨r.t.keep k, r.d.keep k, r.tc, r.dc⟩
structure SmT (t : Trm) : Prop where
 w : t.word.length ≤ 10000000
 l : t.list.length ≤ 10000000
structure SmS (s : Sgm) : Prop where
 d : s.docs.length ≤ 1000000000
 t : s.terms.length ≤ 1000000000
 x : ∀ t ∈ s.terms, SmT t
structure CEnv (w : World) : Prop where
 c : CutTab w
 f : FoldTab w
theorem CEnv.keep {w w' : World} (h : CEnv w) (k : Kp w w' n_) : CEnv w' := ⟨h.c.keep k, h.f.keep k⟩
theorem zdK {α : Type} {lt : α → α → Bool} (htr : ∀ a b c, lt a b = true → lt b c = true → lt a c = true) (l : List α) (hc : ∀ j (hj : j + 1 < l.length), lt (l[j]'(by omega)) l[j + 1] = true) : AscB lt l := by
 refine List.pairwise_iff_getElem.2 fun i j hi hj hij => ?_
 obtain ⟨d, rfl⟩ : ∃ d, j = i + 1 + d := ⟨j - i - 1, by omega⟩
 induction d with
 | zero => exact hc i hj
 | succ d ih => exact htr _ _ _ (ih (by omega) (by omega)) (hc (i + 1 + d) hj)
theorem zan {s : Sgm} : rightS s = true ↔ (AscB ltI s.docs ∧ ∀ n ∈ s.docs, 1 ≤ n ∧ n ≤ 1099511627776) ∧ (∀ t ∈ s.terms, okTerm s.docs t = true) ∧ s.terms.Pairwise fun a b => ltK a.key b.key = true := by
 unfold rightS
 rw [Bool.and_eq_true, Bool.and_eq_true, Go.Mg.risesB_iff, zhv, List.all_eq_true, and_assoc]
section
variable {w : World}
theorem znV (h : Sv) (s : Sgm) (hr : RdS w h s) (hs : SmS s) (hE : CEnv w) : Calls Tryz.prog 21 #[.agg (sgC h).toArray] w fun e w' => e = .returned (.bool (rightS s)) ∧ Kp w w' n_ := by
 have hn1 := RowO.len hr.t
 have hn2 := RowO.len hr.d
 obtain ⟨at_, ct, et, hrt⟩ := hr.t
 obtain ⟨ad, cd, ed, hrd⟩ := hr.d
 have hrd0 := hr.d
 obtain ⟨⟨ta, tn, tc⟩, ⟨da, dn, dc⟩⟩ := h
 injection et with q1 q2 q3
 injection ed with q4 q5 q6
 dsimp only at q1 q2 q3 q4 q5 q6 hrd0
 subst q1 q2 q3 q4 q5 q6
 have hsd := hs.d
 have hst := hs.t
 clear hn1 hn2
 refine zaa (args := [.agg (sgC ⟨⟨ta, s.terms.length, tc⟩, ⟨da, s.docs.length, dc⟩⟩).toArray]) Tryz.func21 rfl NL ?_; refine GW ?_
 obtain ⟨a_b1, v_b1, k_w1, z_w1, r_w1⟩ := new5 w 31 (sgC ⟨⟨ta, s.terms.length, tc⟩, ⟨da, s.docs.length, dc⟩⟩)
 generalize w.alloc (.cells (List.toArray (sgC ⟨⟨ta, s.terms.length, tc⟩, ⟨da, s.docs.length, dc⟩⟩)) 31) = w1 at *
 generalize hs_b1 : w.heap.size = b1 at *
 unfold sgC at a_b1
 dsimp only at a_b1
 refine KGO ?_
 refine Loop.intro (ι := Nat) (fun i => [(1, .pointer (some ⟨b1, 0, none⟩)), (9, .slice da s.docs.length dc), (10, .int .i64 (s.docs.length : Nat)), (11, .int .i64 (i : Nat))])
  (fun i wr => Kp w1 wr n_ ∧ i ≤ s.docs.length ∧ (∀ n ∈ s.docs.take i, 1 ≤ n ∧ n ≤ 1099511627776) ∧ ∀ j (hj : j + 1 < s.docs.length), j + 1 < i → ltI (s.docs[j]'(by omega)) s.docs[j + 1] = true) (fun i => s.docs.length - i) 0 ⟨rfl, rfl, rfl, rfl, trivial⟩ ⟨Kp.refl _ _, Nat.zero_le _, by simp, fun j hj h => by omega⟩ ?_
 rintro i gg wr ⟨hK, hi, hra, hrc⟩
 have hKw := k_w1.trans0 hK
 clear r_w1
 refine GW ?_
 by_cases hlt : i < s.docs.length
 ·obtain ⟨g, o, rfl, hg, hat⟩ := hrd (by omega)
  have ci := zaX hat hlt
  have hno : ¬ (1 ≤ s.docs[i] ∧ s.docs[i] ≤ 1099511627776) → rightS s = false := fun h => by
   cases hq : rightS s with
   | false => rfl
   | true => exact absurd ((zan.1 hq).1.2 _ (List.getElem_mem hlt)) h
  have hat' := hat
  clear hrt hat
  by_cases h1 : s.docs[i] < 1
  ·refine KGO ?_
   exact ⟨zai (hno (by omega)).symm, hKw⟩
  by_cases h2 : 1099511627776 < s.docs[i]
  ·refine KGO ?_
   exact ⟨zai (hno (by omega)).symm, hKw⟩
  have hra2 : ∀ n ∈ s.docs.take (i + 1), 1 ≤ n ∧ n ≤ 1099511627776 := fun n hn => by
   rw [List.take_succ_eq_append_getElem hlt, List.mem_append, List.mem_singleton] at hn
   rcases hn with hn | rfl
   ·exact hra n hn
   ·omega
  cases i with
  | zero =>
   refine KGO ?_
   exact ⟨1, ⟨rfl, rfl, rfl, rfl, trivial⟩, ⟨hK, by omega, hra2, fun j hj h => by omega⟩, by dsimp only; omega⟩
  | succ k =>
   have ck : w.cell? ⟨g, o + k, none⟩ = some (.int .i64 s.docs[k]) := zaX hat' (by omega)
   have e1 : (((k + 1 : Nat) : Int) - 1).toNat = k := by omega
   refine KGO ?_
   rw [e1]
   refine KGO ?_
   by_cases h3 : s.docs[k + 1] ≤ s.docs[k]
   ·refine KGO ?_
    refine ⟨zai ?_, hKw⟩
    cases hq : rightS s with
    | false => rfl
    | true =>
     have := of_decide_eq_true ((List.pairwise_iff_getElem.1 (zan.1 hq).1.1) k (k + 1) (by omega) hlt (by omega))
     omega
   ·refine KGO ?_
    refine ⟨k + 1 + 1, ⟨rfl, rfl, rfl, v_int (by simp), trivial⟩, ⟨hK, by omega, hra2, fun j hj h => ?_⟩, by dsimp only; omega⟩
    by_cases hj2 : j + 1 < k + 1
    ·exact hrc j hj hj2
    ·obtain rfl : j = k := by omega
     exact decide_eq_true (by omega)
 have hdok : AscB ltI s.docs ∧ ∀ n ∈ s.docs, 1 ≤ n ∧ n ≤ 1099511627776 := by
  rw [List.take_of_length_le (by omega)] at hra
  exact ⟨zdK stoI.tr _ fun j hj => hrc j hj (by omega), hra⟩
 have q1 := Kp.refl wr n_
 clear hrd hra hrc
 refine KGO ?_
 refine Loop.intro (ι := Nat) (fun i => [(1, .pointer (some ⟨b1, 0, none⟩)), (38, .slice ta s.terms.length tc), (39, .int .i64 (s.terms.length : Nat)), (40, .int .i64 (i : Nat))])
  (fun i wr => Kp w1 wr n_ ∧ i ≤ s.terms.length ∧ (∀ t ∈ s.terms.take i, okTerm s.docs t = true) ∧ ∀ j (hj : j + 1 < s.terms.length), j + 1 < i → ltK (s.terms[j]'(by omega)).key s.terms[j + 1].key = true) (fun i => s.terms.length - i) 0 ⟨rfl, rfl, rfl, rfl, trivial⟩ ⟨hK, Nat.zero_le _, by simp, fun j hj h => by omega⟩ ?_
 clear hlt hi hKw hK q1
 rintro i gg wr ⟨hK, hi, hok, hrc⟩
 have hKw := k_w1.trans0 hK
 refine GW ?_
 by_cases hlt : i < s.terms.length
 rotate_left
 ·rw [List.take_of_length_le (by omega)] at hok
  have hall : rightS s = true := zan.2 ⟨hdok, hok, zdK (α := Trm) (lt := fun a b => ltK a.key b.key) (fun a b c => stoK.tr _ _ _) _ fun j hj => hrc j hj (by omega)⟩
  refine KGO ?_
  exact ⟨zai hall.symm, hKw⟩
 obtain ⟨g, o, rfl, hg, hat⟩ := hrt (by omega)
 have hsm := hs.x _ (List.getElem_mem hlt)
 have hno : okTerm s.docs s.terms[i] = false → rightS s = false := fun h => by
  cases hq : rightS s with
  | false => rfl
  | true => rw [(zan.1 hq).2.1 _ (List.getElem_mem hlt)] at h; cases h
 refine KGO ?_
 refine Store.fresh (vs := tmC s.terms[i]) (by rfl) rfl (zaq (by rfl)) ?_
 obtain ⟨a_b6, k_w2, z_w2⟩ := new3 wr 56 (tmC s.terms[i])
 generalize wr.alloc (.cells (List.toArray (tmC s.terms[i])) 56) = w2 at *
 generalize hs_b6 : wr.heap.size = b6 at *
 have K2 := hKw.trans0 k_w2
 have a_b1' := zam a_b1 (hK.trans0 k_w2)
 have q2 := Kp.refl w2 n_
 have hs1 : (str s.terms[i].word).size = s.terms[i].word.length := rfl
 by_cases f1 : s.terms[i].field ≤ 0
 ·refine KGO ?_
  exact ⟨zai (hno (by unfold okTerm; rw [decide_eq_false (show ¬ (1 ≤ s.terms[i].field ∧ s.terms[i].field ≤ 5) by omega)]; rfl)).symm, K2.drew⟩
 by_cases f2 : 6 ≤ s.terms[i].field
 ·refine KGO ?_
  exact ⟨zai (hno (by unfold okTerm; rw [decide_eq_false (show ¬ (1 ≤ s.terms[i].field ∧ s.terms[i].field ≤ 5) by omega)]; rfl)).symm, K2.drew⟩
 have hfd : decide (1 ≤ s.terms[i].field ∧ s.terms[i].field ≤ 5) = true := decide_eq_true (by omega)
 have hokt : okTerm s.docs s.terms[i] = (decide (wordsOf s.terms[i].word = [s.terms[i].word]) && okList s.docs s.terms[i].list) := by unfold okTerm; rw [hfd]; rfl
 cases i with
 | zero =>
  refine KGO ?_
  have hcons : ∀ j (hj : j + 1 < s.terms.length), j + 1 < 0 + 1 → ltK (s.terms[j]'(by omega)).key s.terms[j + 1].key = true := fun j hj h => by omega
  refine CallS.of (Tryz.call47 _ _) (zgX (w := w2.drew) (str s.terms[0].word) ((hE.keep (K2.trans0 (q2.drew))).c) ((hE.keep (K2.trans0 (q2.drew))).f) (by have := hsm.w; omega)) ?_
  rintro e w4 ⟨v4, rfl, o4, k4⟩
  rw [show listL (L (str s.terms[0].word)) = wordsOf s.terms[0].word from rfl] at o4
  have o4 := zgD o4
  have K4 : Kp w w4 n_ := (K2.trans0 (q2.drew)).trans0 k4
  have J4 : Kp w1 w4 n_ := ((hK.trans0 k_w2).trans0 (q2.drew)).trans0 k4
  have ab6 := zam a_b6 ((q2.drew).trans0 k4)
  have ab1 := zam a_b1 J4
  have q4 := Kp.refl w4 n_
  generalize wordsOf s.terms[0].word = W at *
  obtain ⟨a4, c4, rfl⟩ := zab o4
  have rw4 := zaS o4
  refine RT ?_
  by_cases g1 : W.length = 1
  rotate_left
  ·refine KGO ?_
   exact ⟨zai (hno (by rw [hokt, decide_eq_false (fun h => g1 (by rw [h]; rfl))]; rfl)).symm, K4.drew⟩
  obtain ⟨wd, rfl⟩ := List.length_eq_one_iff.1 g1
  rw [List.length_singleton] at *
  obtain ⟨_, _, e4, hr4⟩ := rw4
  injection e4 with e4 _ _
  subst e4
  obtain ⟨g4, o4', rfl, _, hat4⟩ := hr4 (by simp)
  have c40 : w4.cell? ⟨g4, o4' + 0, none⟩ = some (.string (str wd)) := hat4 0 _ rfl
  by_cases g2 : wd = s.terms[0].word
  rotate_left
  ·have g2' : ¬ str wd = str s.terms[0].word := fun h => g2 (zce.1 h)
   refine KGO ?_
   exact ⟨zai (hno (by rw [hokt, decide_eq_false (fun h => g2 (by injection h))]; rfl)).symm, K4.drew⟩
  have g2' : str wd = str s.terms[0].word := by rw [g2]
  have hokt2 : okTerm s.docs s.terms[0] = okList s.docs s.terms[0].list := by rw [hokt, decide_eq_true (by rw [g2])]; rfl
  refine KGO ?_
  refine CallS.of (Tryz.call53 _ _) (zhI (w := w4.drew) s.terms[0].list s.docs (hrd0.keep K4.drew) (by omega) hsm.l hdok.1) ?_
  rintro e w5 ⟨rfl, k5⟩
  rw [← hokt2]
  have k45 : Kp w4 w5 n_ := q4.drew.trans0 k5
  refine RT ?_
  cases hq : okTerm s.docs s.terms[0] with
  | false =>
   refine KGO ?_
   exact ⟨zai (hno hq).symm, K4.trans0 k45⟩
  | true =>
   refine KGO ?_
   exact ⟨0 + 1, ⟨rfl, rfl, rfl, v_int (by simp), trivial⟩, ⟨J4.trans0 k45, by omega, fun t ht => by
    rw [List.take_succ_eq_append_getElem hlt, List.mem_append, List.mem_singleton] at ht
    rcases ht with ht | rfl
    ·exact hok t ht
    ·exact hq, fun j hj h => hcons j hj (by omega)⟩, by dsimp only; omega⟩
 | succ k =>
  have e1 : (((k + 1 : Nat) : Int) - 1).toNat = k := by omega
  refine KGO ?_
  simp only [e1]
  refine CallS.of (Tryz.call51 _ _) (zlc (w := w2.drew) s.terms[k] s.terms[k + 1]) ?_
  rintro e w3 ⟨rfl, k3⟩
  refine RT ?_
  have k23 : Kp w2 w3 n_ := q2.drew.trans0 k3
  have q3 := Kp.refl w3 n_
  by_cases hc : cmpT s.terms[k] s.terms[k + 1] < 0
  ·refine KGO ?_
   have hcons : ∀ j (hj : j + 1 < s.terms.length), j + 1 < (k + 1) + 1 → ltK (s.terms[j]'(by omega)).key s.terms[j + 1].key = true := fun j hj h => by
    by_cases hj2 : j + 1 < k + 1
    ·exact hrc j hj hj2
    ·obtain rfl : j = k := by omega
     exact (zdV _ _).1 hc
   refine CallS.of (Tryz.call47 _ _) (zgX (w := w3) (str s.terms[k + 1].word) ((hE.keep (K2.trans0 k23)).c) ((hE.keep (K2.trans0 k23)).f) (by have := hsm.w; omega)) ?_
   rintro e w4 ⟨v4, rfl, o4, k4⟩
   rw [show listL (L (str s.terms[k + 1].word)) = wordsOf s.terms[k + 1].word from rfl] at o4
   have o4 := zgD o4
   have K4 : Kp w w4 n_ := (K2.trans0 k23).trans0 k4
   have J4 : Kp w1 w4 n_ := ((hK.trans0 k_w2).trans0 k23).trans0 k4
   have ab6 := zam a_b6 (k23.trans0 k4)
   have ab1 := zam a_b1 J4
   have q4 := Kp.refl w4 n_
   generalize wordsOf s.terms[k + 1].word = W at *
   obtain ⟨a4, c4, rfl⟩ := zab o4
   have rw4 := zaS o4
   refine RT ?_
   by_cases g1 : W.length = 1
   rotate_left
   ·refine KGO ?_
    exact ⟨zai (hno (by rw [hokt, decide_eq_false (fun h => g1 (by rw [h]; rfl))]; rfl)).symm, K4.drew⟩
   obtain ⟨wd, rfl⟩ := List.length_eq_one_iff.1 g1
   rw [List.length_singleton] at *
   obtain ⟨_, _, e4, hr4⟩ := rw4
   injection e4 with e4 _ _
   subst e4
   obtain ⟨g4, o4', rfl, _, hat4⟩ := hr4 (by simp)
   have c40 : w4.cell? ⟨g4, o4' + 0, none⟩ = some (.string (str wd)) := hat4 0 _ rfl
   by_cases g2 : wd = s.terms[k + 1].word
   rotate_left
   ·have g2' : ¬ str wd = str s.terms[k + 1].word := fun h => g2 (zce.1 h)
    refine KGO ?_
    exact ⟨zai (hno (by rw [hokt, decide_eq_false (fun h => g2 (by injection h))]; rfl)).symm, K4.drew⟩
   have g2' : str wd = str s.terms[k + 1].word := by rw [g2]
   have hokt2 : okTerm s.docs s.terms[k + 1] = okList s.docs s.terms[k + 1].list := by rw [hokt, decide_eq_true (by rw [g2])]; rfl
   refine KGO ?_
   refine CallS.of (Tryz.call53 _ _) (zhI (w := w4.drew) s.terms[k + 1].list s.docs (hrd0.keep K4.drew) (by omega) hsm.l hdok.1) ?_
   rintro e w5 ⟨rfl, k5⟩
   rw [← hokt2]
   have k45 : Kp w4 w5 n_ := q4.drew.trans0 k5
   refine RT ?_
   cases hq : okTerm s.docs s.terms[k + 1] with
   | false =>
    refine KGO ?_
    exact ⟨zai (hno hq).symm, K4.trans0 k45⟩
   | true =>
    refine KGO ?_
    exact ⟨k + 1 + 1, ⟨rfl, rfl, rfl, v_int (by simp), trivial⟩, ⟨J4.trans0 k45, by omega, fun t ht => by
     rw [List.take_succ_eq_append_getElem hlt, List.mem_append, List.mem_singleton] at ht
     rcases ht with ht | rfl
     ·exact hok t ht
     ·exact hq, fun j hj h => hcons j hj (by omega)⟩, by dsimp only; omega⟩
  ·refine KGO ?_
   refine ⟨zai ?_, K2.trans0 k23⟩
   cases hq : rightS s with
   | false => rfl
   | true => exact absurd ((zdV _ _).2 ((List.pairwise_iff_getElem.1 (zan.1 hq).2.2) k (k + 1) (by omega) hlt (by omega))) hc
end
end Go.Proofs.YtcdpocffoapbeaaGreatDoor
namespace Go.Proofs.YtcdpocffoapbeaaGreatDoor
set_option linter.unusedVariables false
set_option maxHeartbeats 8000000
open Go.RowKit Go.Pw Go.Vc Go.Cs Go.Lib
set_option linter.unusedVariables false
set_option maxRecDepth 100000
section
end
end Go.Proofs.YtcdpocffoapbeaaGreatDoor
namespace Go.Cs
set_option linter.unusedVariables false
set_option maxHeartbeats 8000000
open Go.Lib
set_option linter.unusedVariables false
end Go.Cs
namespace Go.Proofs.YtcdpocffoapbeaaGreatDoor
set_option linter.unusedVariables false
set_option maxHeartbeats 8000000
open Go.RowKit Go.Pw Go.Vc Go.Cs Go.Lib
set_option linter.unusedVariables false
set_option maxRecDepth 100000
section
end
section
end
section
end
section
end
end Go.Proofs.YtcdpocffoapbeaaGreatDoor
namespace Go.Cs
set_option linter.unusedVariables false
set_option maxHeartbeats 8000000
open Go.Lib
set_option linter.unusedVariables false
abbrev M40 : Int := 1099511627776
structure FitP (A : Acc) (m : Ml) : Prop where
 id : 1 ≤ m.id ∧ m.id ≤ A.nm - 1
 ne : m.boxes ≠ []
 asc : AscB ltI m.boxes
 there : ∀ b ∈ m.boxes, hasId A.boxes b = true
 fl : m.flags.length ≤ 20
 fasc : AscB ltT m.flags
 fok : ∀ f ∈ m.flags, flagB f = true
 at_ : 0 ≤ m.at_ ∧ m.at_ ≤ M40
 size : 0 ≤ m.size ∧ m.size ≤ 65536
 mod : 0 ≤ m.mod ∧ m.mod ≤ A.st
structure GoodQ (A : Acc) : Prop where
 nm : 1 ≤ A.nm ∧ A.nm ≤ M40
 nb : 1 ≤ A.nb ∧ A.nb ≤ M40
 st : 0 ≤ A.st
 bx : RightP A.boxes
 bid : ∀ b ∈ A.boxes, b.id < A.nb
 ml : A.mails.length ≤ 4096
 asc : A.mails.Pairwise fun x y => x.id < y.id
 fit : ∀ m ∈ A.mails, FitP A m
 sl : A.scripts.length ≤ 16
 sasc : AscS A.scripts
 src : ∀ s ∈ A.scripts, srcB s = true
 nl : A.seen.length ≤ 256
 key : ∀ s ∈ A.seen, s.key.length ≤ 1000 ∧ 0 ≤ s.at_ ∧ s.at_ ≤ M40
 knd : (A.seen.map (·.key)).Nodup
 act : A.active = [] ∨ hasS A.scripts A.active = true
section
variable {A : Acc} {o : Opr}
theorem FitP.mono {A A' : Acc} {m : Ml} (h : FitP A m) (h1 : A.nm ≤ A'.nm) (h2 : A.st ≤ A'.st) (h3 : ∀ b, hasId A.boxes b = true → hasId A'.boxes b = true) : FitP A' m :=
 ⟨by have := h.id; omega, h.ne, h.asc, fun b hb => h3 b (h.there b hb), h.fl, h.fasc, h.fok, h.at_, h.size, by have := h.mod; omega⟩
theorem GoodQ.mails (g : GoodQ A) {l : List Ml} (h1 : l.length ≤ 4096) (h2 : l.Pairwise fun x y => x.id < y.id) (h3 : ∀ m ∈ l, FitP A m) : GoodQ { A with mails := l } :=
 ⟨g.nm, g.nb, g.st, g.bx, g.bid, h1, h2, fun m hm => (h3 m hm).mono (Int.le_refl _) (Int.le_refl _) fun _ h => h, g.sl, g.sasc, g.src, g.nl, g.key, g.knd, g.act⟩
theorem GoodQ.boxes (g : GoodQ A) {l : List Bx} (h1 : RightP l) (h2 : ∀ b ∈ l, b.id < A.nb) (h3 : ∀ i, hasId A.boxes i = true → hasId l i = true) : GoodQ { A with boxes := l } :=
 ⟨g.nm, g.nb, g.st, h1, h2, g.ml, g.asc, fun m hm => (g.fit m hm).mono (Int.le_refl _) (Int.le_refl _) h3, g.sl, g.sasc, g.src, g.nl, g.key, g.knd, g.act⟩
end
section
end
section
variable {A : Acc} {o : Opr} {r : Acc × Int}
theorem GoodQ.scripts (g : GoodQ A) {l : List Sc} (h1 : l.length ≤ 16) (h2 : AscS l) (h3 : ∀ s ∈ l, srcB s = true) (h4 : A.active = [] ∨ hasS l A.active = true) : GoodQ { A with scripts := l } :=
 ⟨g.nm, g.nb, g.st, g.bx, g.bid, g.ml, g.asc, fun m hm => (g.fit m hm).mono (Int.le_refl _) (Int.le_refl _) fun _ h => h, h1, h2, h3, g.nl, g.key, g.knd, h4⟩
end
end Go.Cs
namespace Go.Proofs.YtcdpocffoapbeaaGreatDoor
set_option linter.unusedVariables false
set_option maxHeartbeats 8000000
open Go.Shelf Go.RowKit Go.Pw Go.Vc Go.Cs Go.Lib
set_option linter.unusedVariables false
set_option maxRecDepth 100000
section
variable {w : World}
theorem ziA {va vb : Value} (la lb : List Int) (ha : RowI w va la) (hb : RowI w vb lb) (hl : la.length ≤ 1000000) (hl2 : lb.length ≤ 1000000) :
  Calls Tryz.prog 30 #[va, vb] w fun e w' => e = .returned (.bool (decide (la = lb))) ∧ Kp w w' n_ := by
 obtain ⟨a, ca, rfl, hra⟩ := ha
 obtain ⟨b, cb, rfl, hrb⟩ := hb
 refine zaa (args := [.slice a la.length ca, .slice b lb.length cb]) Tryz.func30 rfl NL ?_; refine GW ?_
 by_cases hn : la.length = lb.length
 rotate_left
 ·refine KGO ?_
  refine ⟨zai ?_, Kp.refl _ _⟩
  exact (decide_eq_false fun h => hn (by rw [h])).symm
 refine KGO ?_
 refine Loop.intro (ι := Nat) (fun i => [(0, .slice a la.length ca), (1, .slice b lb.length cb), (5, .int .i64 (i : Nat))])
  (fun i wr => Kp w wr n_ ∧ i ≤ la.length ∧ la.take i = lb.take i) (fun i => la.length - i) 0 ⟨rfl, rfl, rfl, trivial⟩ ⟨Kp.refl _ _, Nat.zero_le _, rfl⟩ ?_
 rintro i gg wr ⟨hK, hi, ht⟩
 refine GW ?_
 by_cases hlt : i < la.length
 ·have hlt2 : i < lb.length := by omega
  obtain ⟨ga, oa, rfl, hga, hata⟩ := hra (by omega)
  obtain ⟨gb, ob, rfl, hgb, hatb⟩ := hrb (by omega)
  have ca := zaX hata hlt
  have cb := zaX hatb hlt2
  by_cases he : la[i] = lb[i]
  ·rw [he] at ca
   refine KGO ?_
   exact ⟨i + 1, ⟨rfl, rfl, v_int (by simp), trivial⟩, ⟨hK.drew, by omega, by rw [List.take_succ_eq_append_getElem hlt, List.take_succ_eq_append_getElem hlt2, ht, he]⟩, by dsimp only; omega⟩
  ·refine KGO ?_
   refine ⟨zai ?_, hK.drew⟩
   exact (decide_eq_false fun h => he (by subst h; rfl)).symm
 ·refine KGO ?_
  refine ⟨zai ?_, hK⟩
  rw [List.take_of_length_le (by omega), List.take_of_length_le (by omega)] at ht
  exact (decide_eq_true ht).symm
end
end Go.Proofs.YtcdpocffoapbeaaGreatDoor
namespace Go.Proofs.YtcdpocffoapbeaaGreatDoor
set_option linter.unusedVariables false
set_option maxHeartbeats 8000000
open Go.Shelf Go.RowKit Go.Pw Go.Vc Go.Cs Go.Lib Go.Cd Go.Mg
set_option linter.unusedVariables false
set_option maxRecDepth 100000
theorem fldsTm : ∃ a b c, (Tryz.prog.fieldsOf 56).toList = [a, b, c] ∧ a.name ≠ "_" ∧ b.name ≠ "_" ∧ c.name ≠ "_" ∧ a.type = 3 ∧ b.type = 9 ∧ c.type = 9 ∧ a.offset = 0 ∧ b.offset = 1 ∧ c.offset = 2 :=
 ⟨_, _, _, rfl, by decide, by decide, by decide, rfl, rfl, rfl, rfl, rfl, rfl⟩
theorem eqlTm (x y : Trm) (w : World) : (Op.equalIn (9999 + 1) 56 (.agg (tmC x).toArray) (.agg (tmC y).toArray)).run Tryz.prog w = .ok (decide (x = y)) w := by
 rw [run_equalIn_agg w 9999 56 _ _ (by rfl) (by kernel_rfl)]
 obtain ⟨a, b, c, hf, na, nb, nc, ta, tb, tc, oa, ob, oc⟩ := fldsTm
 rw [hf]
 simp only [Op.eqFields, na, nb, nc, ne_eq, not_false_eq_true, if_true, ta, tb, tc, oa, ob, oc]
 have p0 : (part 3 (tmC x).toArray 0).run Tryz.prog w = .ok (.int .i64 x.field) w := by rfl
 have p1 : (part 9 (tmC x).toArray 1).run Tryz.prog w = .ok (.string (str x.word)) w := by rfl
 have p2 : (part 9 (tmC x).toArray 2).run Tryz.prog w = .ok (.string (str x.list)) w := by rfl
 have q0 : (part 3 (tmC y).toArray 0).run Tryz.prog w = .ok (.int .i64 y.field) w := by rfl
 have q1 : (part 9 (tmC y).toArray 1).run Tryz.prog w = .ok (.string (str y.word)) w := by rfl
 have q2 : (part 9 (tmC y).toArray 2).run Tryz.prog w = .ok (.string (str y.list)) w := by rfl
 have i1 (a b : Int) : (Op.equalIn (9998 + 1) 3 (.int .i64 a) (.int .i64 b)).run Tryz.prog w = .ok (a == b) w := run_equalIn_int w 9998 3 .i64 .i64 a b (by rfl)
 have i2 (a b : ByteArray) : (Op.equalIn (9998 + 1) 9 (.string a) (.string b)).run Tryz.prog w = .ok (a.toList == b.toList) w := run_equalIn_string w 9998 9 a b (by rfl)
 simp only [Sem.run_bind, Sem.run_ite, p0, p1, p2, q0, q1, q2, i1, i2, Result.andThen_ok]
 obtain ⟨x1, x2, x3⟩ := x
 obtain ⟨y1, y2, y3⟩ := y
 dsimp only
 rw [ziF, ziF]
 by_cases h1 : x1 = y1 <;> by_cases h2 : x2 = y2 <;> by_cases h3 : x3 = y3 <;> simp [h1, h2, h3]
theorem neqTm (x y : Trm) (a b : Operand) {K : Value → World → Prop} {w : World} (k : K (.bool (!decide (x = y))) w) :
  RunV Tryz.prog (do eqGuard .neq 56 a b (.agg (tmC x).toArray) (.agg (tmC y).toArray); binOp .neq 56 (.agg (tmC x).toArray) (.agg (tmC y).toArray)) w K := by
 refine RunV.of ?_ k
 rw [Sem.run_bind, run_eqGuard_agg w .neq 56 a b _ _ (by kernel_rfl), Result.andThen_ok, run_neq_struct]
 rw [show (10000 : Nat) = 9999 + 1 from rfl, eqlTm]
 rfl
theorem zpJ (a b : Sgm) : decide (a = b) = (decide (a.docs = b.docs) && decide (a.terms = b.terms)) := by
 obtain ⟨a1, a2⟩ := a
 obtain ⟨b1, b2⟩ := b
 by_cases h1 : a1 = b1 <;> by_cases h2 : a2 = b2 <;> simp [h1, h2]
section
variable {w : World}
theorem zcJ (ha hb : Sv) (a b : Sgm) (ra : RdS w ha a) (rb : RdS w hb b) (la : a.terms.length ≤ 1000000000) (lb : a.docs.length ≤ 1000000) (lb2 : b.docs.length ≤ 1000000) : Calls Tryz.prog 12 #[.agg (sgC ha).toArray, .agg (sgC hb).toArray] w fun e w' => e = .returned (.bool (decide (a = b))) ∧ Kp w w' n_ := by
 have hra := ra.t
 have hrb := rb.t
 obtain ⟨at_, ca, ea, hat⟩ := hra
 obtain ⟨bt, cb, eb, hbt⟩ := hrb
 have rad := ra.d
 have rbd := rb.d
 obtain ⟨⟨ta, tn, tc⟩, ad⟩ := ha
 obtain ⟨⟨ta2, tn2, tc2⟩, bd⟩ := hb
 injection ea with q1 q2 q3
 injection eb with q4 q5 q6
 dsimp only at q1 q2 q3 q4 q5 q6 rad rbd
 subst q1 q2 q3 q4 q5 q6
 refine zaa (args := [.agg (sgC ⟨⟨ta, a.terms.length, tc⟩, ad⟩).toArray, .agg (sgC ⟨⟨ta2, b.terms.length, tc2⟩, bd⟩).toArray]) Tryz.func12 rfl NL ?_; refine GW ?_
 obtain ⟨a_b1, v_b1, k_w1, z_w1, r_w1⟩ := new5 w 31 (sgC ⟨⟨ta, a.terms.length, tc⟩, ad⟩)
 generalize w.alloc (.cells (List.toArray (sgC ⟨⟨ta, a.terms.length, tc⟩, ad⟩)) 31) = w1 at *
 generalize hs_b1 : w.heap.size = b1 at *
 obtain ⟨a_b2, v_b2, k_w2, z_w2, r_w2⟩ := new5 w1 31 (sgC ⟨⟨ta2, b.terms.length, tc2⟩, bd⟩)
 generalize w1.alloc (.cells (List.toArray (sgC ⟨⟨ta2, b.terms.length, tc2⟩, bd⟩)) 31) = w2 at *
 generalize hs_b2 : w1.heap.size = b2 at *
 have K2 : Kp w w2 n_ := k_w1.trans0 k_w2
 have a1 := zam a_b1 k_w2
 unfold sgC at a1 a_b2
 dsimp only at a1 a_b2
 clear a_b1 v_b1 v_b2
 rw [zpJ]
 refine KGO ?_
 refine CallS.of (Tryz.call30 _ _) (ziA (w := w2) a.docs b.docs (rad.keep K2) (rbd.keep K2) lb lb2) ?_
 rintro e w3 ⟨rfl, k3⟩
 have K3 := K2.trans0 k3
 have a1 := zam a1 k3
 have a_b2 := zam a_b2 k3
 have r3 := Kp.refl w3 n_
 refine RT ?_
 cases hd : decide (a.docs = b.docs) with
 | false =>
  refine KGO ?_
  exact ⟨rfl, K3⟩
 | true =>
 by_cases hn : a.terms.length = b.terms.length
 rotate_left
 ·refine KGO ?_
  exact ⟨zai (by rw [decide_eq_false (fun h => hn (by rw [h]))]; rfl), K3⟩
 refine KGO ?_
 refine Loop.intro (ι := Nat) (fun i => [(2, .pointer (some ⟨b1, 0, none⟩)), (3, .pointer (some ⟨b2, 0, none⟩)), (5, .int .i64 (i : Nat))])
  (fun i wr => Kp w3 wr n_ ∧ i ≤ a.terms.length ∧ a.terms.take i = b.terms.take i) (fun i => a.terms.length - i) 0 ⟨rfl, rfl, rfl, trivial⟩ ⟨Kp.refl _ _, Nat.zero_le _, rfl⟩ ?_
 rintro i gg wr ⟨hK, hi, ht⟩
 have hKw := K3.trans0 hK
 clear r3
 refine GW ?_
 by_cases hlt : i < a.terms.length
 ·have hlt2 : i < b.terms.length := by omega
  obtain ⟨ga, oa, rfl, hga, hata⟩ := hat (by omega)
  obtain ⟨gb, ob, rfl, hgb, hatb⟩ := hbt (by omega)
  clear hat hbt
  refine KGO ?_
  refine neqTm _ _ _ _ ?_
  by_cases he : a.terms[i] = b.terms[i]
  ·rw [decide_eq_true he]
   refine KGO ?_
   exact ⟨i + 1, ⟨rfl, rfl, v_int (by simp), trivial⟩, ⟨hK.drew, by omega, by rw [List.take_succ_eq_append_getElem hlt, List.take_succ_eq_append_getElem hlt2, ht, he]⟩, by dsimp only; omega⟩
  ·rw [decide_eq_false he]
   refine KGO ?_
   exact ⟨zai (by rw [decide_eq_false (fun h => he (by simp [h]))]; rfl), hKw.drew⟩
 ·refine KGO ?_
  have e : i = a.terms.length := by omega
  rw [e, List.take_length, hn, List.take_length] at ht
  exact ⟨zai (by rw [ht]; simp), hKw⟩
theorem zbz (t : Trm) (hl : t.list.length ≤ 10000000) : Calls Tryz.prog 69 #[.agg (tmC t).toArray] w fun e w' => ∃ v, e = .returned v ∧ OwnP w' w.heap.size v ((decP t.list).getD []) ∧ Kp w w' n_ := by
 refine zaa (args := [.agg (tmC t).toArray]) Tryz.func69 rfl NL ?_; refine GW ?_
 obtain ⟨a_b1, v_b1, k_w1, z_w1, r_w1⟩ := new5 w 56 (tmC t)
 generalize w.alloc (.cells (List.toArray (tmC t)) 56) = w1 at *
 generalize hs_b1 : w.heap.size = b1 at *
 refine KGO ?_
 refine CallS.of (Tryz.call95 _ _) (zim (w := w1) t.list hl) ?_
 rintro e w2 ⟨⟨v, rfl, hv, hno⟩, k2⟩
 obtain ⟨a, c, rfl⟩ := hv.shape
 refine RT ?_
 exact ⟨_, rfl, hv.base (by omega), k_w1.trans0 k2⟩
theorem build0S (w : World) : (Instr.build 31 [].toArray).run Tryz.prog w = .ok (.agg #[.slice none 0 0, .slice none 0 0]) w := by
 simp [Instr.build, Instr.fill, go_sem, Tryz.runUnderlying31]
theorem zpw (w : World) : RdS w ⟨⟨none, 0, 0⟩, ⟨none, 0, 0⟩⟩ ⟨[], []⟩ := ⟨⟨none, 0, rfl, fun h => by simp at h⟩, ⟨none, 0, rfl, fun h => by simp at h⟩, fun a n c e => by injection e with _ e1 e2; subst e1; exact Nat.zero_le _, fun a n c e => by injection e with _ e1 e2; subst e1; exact Nat.zero_le _⟩
theorem zjT (h : Sv) (s : Sgm) (hr : RdS w h s) (hs : SmS s) (hE : CEnv w) : Calls Tryz.prog 31 #[.agg (sgC h).toArray] w fun e w' => ∃ h', e = .returned (.agg (sgC h').toArray) ∧ (∀ w0, RdS w0 h s → RdS w0 h' (validS s)) ∧ Kp w w' n_ := by
 refine zaa (args := [.agg (sgC h).toArray]) Tryz.func31 rfl NL ?_; refine GW ?_
 obtain ⟨a_b1, v_b1, k_w1, z_w1, r_w1⟩ := new5 w 31 (sgC h)
 generalize w.alloc (.cells (List.toArray (sgC h)) 31) = w1 at *
 generalize hs_b1 : w.heap.size = b1 at *
 obtain ⟨a_b2, v_b2, k_w2, z_w2, r_w2⟩ := new5 w1 31 ([.slice none 0 0, .slice none 0 0])
 generalize w1.alloc (.cells (List.toArray ([.slice none 0 0, .slice none 0 0])) 31) = w2 at *
 generalize hs_b2 : w1.heap.size = b2 at *
 have K2 : Kp w w2 n_ := k_w1.trans0 k_w2
 have a1 := zam a_b1 k_w2
 clear a_b1
 refine KGO ?_
 refine CallS.of (Tryz.call21 _ _) (znV (w := w2) h s (hr.keep K2) hs (hE.keep K2)) ?_
 rintro e w3 ⟨rfl, k3⟩
 have K3 := K2.trans0 k3
 have v3 := v_b2.keep0 k3
 have z3 := k_w1.size
 refine RT ?_
 unfold validS
 cases hq : rightS s with
 | false =>
  refine KGO ?_
  refine RunV.of (build0S _) ?_
  refine KGO ?_
  refine Store.varK [.slice none 0 0, .slice none 0 0] v3 (by rfl) rfl (zaq (by rfl)) fun w4 v4 k4 => ?_
  have a4 := v4.at
  have q4 := Kp.refl w4 n_
  refine KGO ?_
  refine GW ?_
  exact ⟨⟨⟨none, 0, 0⟩, ⟨none, 0, 0⟩⟩, rfl, fun w0 _ => zpw _, zah K3 k4 (by omega)⟩
 | true =>
  refine KGO ?_
  refine SVK (sgC h) v3 fun w4 v4 k4 => ?_
  have a4 := v4.at
  have q4 := Kp.refl w4 n_
  have K4 := zah K3 k4 (by omega)
  refine KGO ?_
  refine GW ?_
  exact ⟨h, rfl, fun w0 r => r, K4⟩
end
end Go.Proofs.YtcdpocffoapbeaaGreatDoor
