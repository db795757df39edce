/- Helper lemmas that the proved statement rests on; no conditions of their own. -/
import Derived.Test.YtennokckmjcefaaGreatDoorGWcR
set_option linter.unusedVariables false
set_option maxHeartbeats 4000000
set_option maxRecDepth 100000
namespace Go.Proofs.YtennokckmjcefaaGreatDoor
open Go.Shelf Go.RowKit Go.Pw Go.Vc Go.Cs Go.Lib Go.Cd
theorem zaA {w w' a : World} {c : Nat → Prop} {B s n : Nat} {e : TypeId} {v : Value} {xs : List Value} (h : w.ownsRow B e s v n xs) (k : Kp w w' (own_ v)) (ha : Kp a w c) (hB : a.heap.size ≤ B) : Kp a w' c :=
 ha.trans k fun i hi hc => by
  exfalso
  rcases h.2 with ⟨rfl, _⟩ | ⟨g, cap, cur, rfl, hb, _⟩
  ·cases hc
  ·have e : g = i := by simpa [own_, Value.ownBlock] using hc
   omega
theorem bs1I (z : Int) (w : World) : (Instr.buildSlice 40 1 [(0, .int .i64 z)].toArray).run Tryz.prog w = .ok (.slice (some ⟨w.heap.size, 0, none⟩) 1 1) (w.alloc (.cells (List.toArray (inC z)) 3)) := by
 simp [Instr.buildSlice, go_sem, Tryz.runUnderlying40, inC]
def iL (l : List Nat) : List Int := l.map fun n : Nat => (n : Int)
theorem zcV (l : List Nat) : (iL l).length = l.length := by simp [iL]
theorem zmw (l : List Nat) (h : ∀ n ∈ l, n < 2 ^ 63) : (l.flatMap numE).length ≤ 9 * l.length := by
 induction l with
 | nil => simp
 | cons n l ih =>
  have h1 := zaC (h n List.mem_cons_self)
  have h2 := ih fun m hm => h m (List.mem_cons_of_mem _ hm)
  simp only [List.flatMap_cons, List.length_append, List.length_cons]; omega
section
variable {w : World} {b : Nat}
theorem zrq (l : List Nat) {v : Value} (hv : RowI w v (iL l)) (hb : ∀ n ∈ l, n < 2 ^ 63) (hl : l.length ≤ 100000000) :
  Calls Tryz.prog 124 #[v, .func (.func 67) #[] #[]] w fun e w' => e = .returned (.string (str (numsE l))) ∧ Kp w w' n_ := by
 obtain ⟨a, cap, rfl, hr⟩ := hv
 rw [zcV]
 refine zaa (args := [.slice a l.length cap, .func (.func 67) #[] #[]]) Tryz.func124 rfl NL ?_; refine GW ?_
 have hb0 := zea w w.heap.size (Nat.le_refl _)
 have K0 : Kp w (w.alloc (.cells #[.pointer none, .slice none 0 0] 93)) n_ := (Kp.refl _ _).alloc _
 generalize w.alloc (.cells #[.pointer none, .slice none 0 0] 93) = w0 at *
 refine GO ?_
 refine CallS.of (Tryz.call67 _ _) (zft l.length (by omega)) ?_
 rintro e w1 ⟨rfl, k1⟩
 refine RT ?_
 have hln := zaC (show l.length < 2 ^ 63 by omega)
 have hsz : (str (numE l.length)).size = (numE l.length).length := rfl
 have hb1 := zaY hb0 k1
 have K1 := K0.trans0 k1
 refine CallS.of (Tryz.call66 _ _) (zaS (str (numE l.length)) w1 hb1 (by rw [hsz]; simp; omega) K1.size) ?_
 rintro e w2 ⟨rfl, hb2, hbe, _⟩
 refine RT ?_
 have K2 := K1.below' hbe (Nat.le_refl _)
 rw [List.nil_append, show L (str (numE l.length)) = numE l.length from rfl] at hb2
 refine Loop.intro (ι := Nat) (fun i => [(1, .func (.func 67) #[] #[]), (5, .pointer (some ⟨w.heap.size, 0, none⟩)), (6, .func (.func 66) #[.pointer (some ⟨w.heap.size, 0, none⟩)] #[]), (15, .slice a l.length cap), (16, .int .i64 (l.length : Nat)), (17, .int .i64 (i : Nat))])
  (fun i wr => Kp w wr n_ ∧ i ≤ l.length ∧ Bld wr w.heap.size w.heap.size (numE l.length ++ (l.take i).flatMap numE)) (fun i => l.length - i) 0 ⟨rfl, rfl, by simp [upd], rfl, rfl, rfl, trivial⟩ ⟨K2, by omega, by simpa using hb2⟩ ?_
 rintro i g wr ⟨hK, hi, hbr⟩
 refine GW ?_
 by_cases hlt : i < l.length
 ·obtain ⟨gb, o, rfl, hgb, hat⟩ := hr (by rw [zcV]; omega)
  have hca := zbh hat (by rw [zcV]; exact hlt)
  have hgi : (iL l)[i]'(by rw [zcV]; exact hlt) = ((l[i] : Nat) : Int) := by simp [iL]
  rw [hgi] at hca
  have hbi := hb l[i] (List.getElem_mem hlt)
  refine KGO ?_
  refine CallS.of (Tryz.call67 _ _) (zft l[i] hbi) ?_
  rintro e w3 ⟨rfl, k3⟩
  refine RT ?_
  have hni := zaC hbi
  have hbr3 := zaY hbr k3
  have K3 := hK.trans0 k3
  have hfl := zmw (l.take i) (fun n hn => hb n (List.mem_of_mem_take hn))
  rw [List.length_take] at hfl
  refine CallS.of (Tryz.call66 _ _) (zaS (str (numE l[i])) w3 hbr3 (by rw [show (str (numE l[i])).size = (numE l[i]).length from rfl, List.length_append]; omega) K3.size) ?_
  rintro e w4 ⟨rfl, hb4, hbe4, _⟩
  refine RT ?_
  refine KGO ?_
  refine ⟨i + 1, ⟨rfl, rfl, rfl, rfl, rfl, v_int (by simp), trivial⟩, ⟨K3.below' hbe4 (Nat.le_refl _), by omega, ?_⟩, by dsimp only; omega⟩
  rw [List.take_succ_eq_append_getElem hlt, List.flatMap_append, ← List.append_assoc]
  rw [show L (str (numE l[i])) = numE l[i] from rfl] at hb4
  simpa using hb4
 ·refine KGO ?_
  have hnn : i = l.length := by omega
  rw [hnn, List.take_length] at hbr
  refine CallS.of (Tryz.call71 _ _) (zdb wr hbr hK.size) ?_
  rintro e w4 ⟨rfl, hb4, hbe4, _⟩
  refine RT ?_
  exact ⟨rfl, hK.below' hbe4 (Nat.le_refl _)⟩
theorem znV (l : List Nat) {v : Value} (hv : RowI w v (iL l)) (hb : ∀ n ∈ l, n < 2 ^ 63) (hl : l.length ≤ 100000000) :
  Calls Tryz.prog 70 #[v] w fun e w' => e = .returned (.string (str (numsE l))) ∧ Kp w w' n_ := by
 have hv0 := hv
 obtain ⟨a, cap, rfl, hr⟩ := hv
 refine zaa (args := [.slice a (iL l).length cap]) Tryz.func70 rfl NL ?_; refine GW ?_
 refine CallS.of (Tryz.call124 _ _) (zrq l hv0 hb hl) ?_
 rintro e w1 ⟨rfl, k1⟩
 refine RT ?_
 exact ⟨rfl, k1⟩
theorem zpA (s : ByteArray) (w : World) : (Instr.build 139 [(0, .string s)].toArray).run Tryz.prog w = .ok (.agg #[.string s, .bool false]) w := by
 simp [Instr.build, go_sem, Tryz.runUnderlying139]
theorem zjh (s : ByteArray) : Calls Tryz.prog 50 #[.string s] w fun e w' => e = .returned (.pointer (some ⟨w.heap.size, 0, none⟩)) ∧ VarK w' w.heap.size 139 (rdC (some (L s))) ∧ Kp w w' n_ := by
 refine zaa (args := [.string s]) Tryz.func50 rfl NL ?_; refine GW ?_
 refine RunV.of (zpA s w) ?_
 refine GW ?_
 refine ⟨rfl, ?_, (Kp.refl _ _).alloc _⟩
 exact VarK.new w 139 [.string s, .bool false]
theorem zhs (s : St) (h : VarK w b 139 (rdC s)) (hs : ∀ u, s = some u → u.length ≤ 140737488355328) : Calls Tryz.prog 56 #[.pointer (some ⟨b, 0, none⟩)] w fun e w' => e = .returned (.bool (decide (s = some []))) ∧ Kp w w' n_ := by
 cases s with
 | none =>
  have ha : At w b 0 [.string ⟨#[]⟩, .bool true] := h.at
  refine zaa (args := [.pointer (some ⟨b, 0, none⟩)]) Tryz.func56 rfl NL ?_; refine GW ?_
  refine KGO ?_
  exact ⟨rfl, Kp.refl _ _⟩
 | some u =>
  have ha : At w b 0 [.string (str u), .bool false] := h.at
  have hsz : (str u).size = u.length := rfl
  refine zaa (args := [.pointer (some ⟨b, 0, none⟩)]) Tryz.func56 rfl NL ?_; refine GW ?_
  by_cases hu : u.length = 0
  ·refine KGO ?_
   refine ⟨zan ?_, Kp.refl _ _⟩
   rw [hsz, hu, List.eq_nil_of_length_eq_zero hu]; rfl
  ·refine KGO ?_
   refine ⟨zan ?_, Kp.refl _ _⟩
   rw [hsz]
   have : u ≠ [] := fun e => hu (by rw [e]; rfl)
   simp [this, hu]
end
theorem zgO (s : St) : ∀ u r, s = some u → (numR s).2 = some r → r.length < u.length := by
 rintro u r rfl h
 unfold numR at h
 dsimp only at h
 split at h
 ·cases h
 ·rename_i n r' hd
  injection h with h; subst h
  exact (zeb 9 false u n r' hd).2
theorem zcg (s : St) : (numR s).1 < 2 ^ 63 := by
 unfold numR
 split
 ·decide
 ·split
  ·decide
  ·rename_i h; have := (zeb _ _ _ _ _ h).1; dsimp only; omega
theorem zml {s : St} (h : (numR s).2 = none) : (numR s).1 = 0 := by
 cases s with
 | none => rfl
 | some u =>
  unfold numR at h ⊢
  dsimp only at h ⊢
  cases hd : numD 9 false u with
  | none => rfl
  | some p => rw [hd] at h; cases h
def stLen : St → Nat
 | none => 0
 | some u => u.length
theorem zgk (s : St) : stLen (numR s).2 ≤ stLen s := by
 cases h : (numR s).2 with
 | none => simp [stLen]
 | some r =>
  cases s with
  | none => simp [numR] at h
  | some u => have := zgO (some u) u r rfl h; simp only [stLen]; omega
section
variable {w : World} {b : Nat}
theorem zrI (s : St) (h : VarK w b 139 (rdC s)) (hs : stLen s ≤ 140737488355328 / 16) :
  Calls Tryz.prog 118 #[.pointer (some ⟨b, 0, none⟩), .func (.func 51) #[.pointer (some ⟨b, 0, none⟩)] #[]] w fun e w' =>
   ∃ v, e = .returned v ∧ OwnI w' w.heap.size v (iL (numsR s).1) ∧ VarK w' b 139 (rdC (numsR s).2) ∧ Kp w w' (one_ b) := by
 have hs0 : ∀ u, s = some u → u.length ≤ 140737488355328 := by rintro u rfl; simp only [stLen] at hs; omega
 have hlt := h.lt
 refine zaa (args := [.pointer (some ⟨b, 0, none⟩), .func (.func 51) #[.pointer (some ⟨b, 0, none⟩)] #[]]) Tryz.func118 rfl NL ?_; refine GW ?_
 refine CallS.of (Tryz.call51 _ _) (zcj s h hs0) ?_
 rintro e w1 ⟨rfl, h1, k1⟩
 refine RT ?_
 have hle := zgk s
 have hn63 := zcg s
 have hnn := @zml s
 have hd : numsR s = match numR s with | (_, none) => ([], none) | (n, some r) => if r.length < n then ([], none) else (match numsG n (some r) with | (_, none) => ([], none) | p => p) := rfl
 obtain ⟨n, s1, hns⟩ : ∃ n s1, numR s = (n, s1) := ⟨_, _, rfl⟩
 rw [hns] at h1 hle hn63 hnn hd
 rw [hns]
 dsimp only at h1 hle hn63 hnn hd ⊢
 obtain ⟨r0, x0, hc0, hr0⟩ : ∃ r0 x0, rdC s1 = [.string (str r0), .bool x0] ∧ r0.length = stLen s1 ∧ (s1 = none → x0 = true) ∧ (∀ r, s1 = some r → r = r0 ∧ x0 = false) := by
  cases s1 with
  | none => exact ⟨[], true, rfl, rfl, fun _ => rfl, fun _ h => by cases h⟩
  | some r => exact ⟨r, false, rfl, rfl, (fun h => by cases h), fun _ h => by injection h with h; exact ⟨h.symm, rfl⟩⟩
 obtain ⟨hr0l, hx1, hx2⟩ := hr0
 have a1 : At w1 b 0 [.string (str r0), .bool x0] := by rw [← hc0]; exact h1.at
 have hsz : (str r0).size = r0.length := rfl
 by_cases hbig : r0.length < n
 ·refine KGO ?_
  refine CallS.of (Tryz.call115 _ _) (zbo s1 h1) ?_
  rintro e w2 ⟨rfl, h2, k2⟩
  refine RT ?_
  have a2 : At w2 b 0 [.string ⟨#[]⟩, .bool true] := h2.at
  have hnil : numsR s = ([], none) := by
   rw [hd]
   cases s1 with
   | none => rfl
   | some r => obtain ⟨rfl, _⟩ := hx2 r rfl; dsimp only; rw [if_pos hbig]
  refine Loop.intro (ι := Unit) (fun i => [(0, .pointer (some ⟨b, 0, none⟩)), (5, .int .i64 (n : Nat)), (6, .slice none 0 0), (7, .int .i64 0)])
   (fun i wr => wr = w2) (fun i => 0) () ⟨rfl, rfl, rfl, rfl, trivial⟩ rfl ?_
  rintro ⟨⟩ g wr rfl
  refine GW ?_
  have q2 := Kp.refl wr n_
  by_cases hn0 : 0 < n
  ·refine KGO ?_
   rw [hnil]
   exact ⟨_, rfl, World.ownsRow_nil _ _ _ _, h2, k1.trans' k2⟩
  ·omega
 cases s1 with
 | none =>
  have hn0 := hnn rfl
  obtain rfl := hx1 rfl
  have hnil : numsR s = ([], none) := hd
  refine KGO ?_
  refine Loop.intro (ι := Unit) (fun i => [(0, .pointer (some ⟨b, 0, none⟩)), (5, .int .i64 (n : Nat)), (6, .slice none 0 0), (7, .int .i64 0)])
   (fun i wr => wr = w1) (fun i => 0) () ⟨rfl, rfl, rfl, rfl, trivial⟩ rfl ?_
  rintro ⟨⟩ g wr rfl
  refine GW ?_
  have q2 := Kp.refl wr n_
  refine KGO ?_
  rw [hnil]
  exact ⟨_, rfl, World.ownsRow_nil _ _ _ _, h1, k1⟩
 | some r =>
  obtain ⟨rfl, rfl⟩ := hx2 r rfl
  have hle : r.length ≤ stLen s := hle
  have hb47 : n ≤ 8796093022208 := by omega
  have hd : numsR s = (match numsG n (some r) with | (_, none) => ([], none) | p => p) := by rw [hd]; dsimp only; rw [if_neg hbig]
  refine KGO ?_
  refine Loop.intro (ι := Nat × List Nat × St × Option Addr × Nat) (fun i => [(0, .pointer (some ⟨b, 0, none⟩)), (1, .func (.func 51) #[.pointer (some ⟨b, 0, none⟩)] #[]), (5, .int .i64 (n : Nat)), (6, .slice i.2.2.2.1 i.2.1.length i.2.2.2.2), (7, .int .i64 (i.1 : Nat))])
   (fun i wr => Kp w wr (one_ b) ∧ VarK wr b 139 (rdC i.2.2.1) ∧ OwnI wr w.heap.size (.slice i.2.2.2.1 i.2.1.length i.2.2.2.2) (iL i.2.1) ∧ i.1 ≤ n ∧ i.2.1.length = i.1 ∧ stLen i.2.2.1 ≤ stLen s ∧
    ((∃ q, i.2.2.1 = some q ∧ numsG n (some r) = (i.2.1 ++ (numsG (n - i.1) (some q)).1, (numsG (n - i.1) (some q)).2)) ∨ (i.2.2.1 = none ∧ (numsG n (some r)).2 = none))) (fun i => n - i.1) (0, [], some r, none, 0) ⟨rfl, rfl, rfl, rfl, rfl, trivial⟩
   ⟨k1, h1, World.ownsRow_nil _ _ _ _, by omega, rfl, hle, .inl ⟨r, rfl, by simp⟩⟩ ?_
  rintro ⟨i, outs, t, a, c⟩ g wr ⟨hK, hv, ho, hi, hol, hst, hor⟩
  dsimp only at hv ho hi hol hst hor ⊢
  refine GW ?_
  have q2 := Kp.refl wr n_
  rcases hor with ⟨q, rfl, hg⟩ | ⟨rfl, hg⟩
  ·have at_ : At wr b 0 [.string (str q), .bool false] := hv.at
   by_cases hlt2 : i < n
   ·refine KGO ?_
    refine CallS.of (Tryz.call51 _ _) (zcj (some q) hv (fun u e => by injection e with e; subst e; have hst : q.length ≤ stLen s := hst; omega)) ?_
    rintro e w3 ⟨rfl, h3, k3⟩
    refine RT ?_
    have o3 : OwnI w3 w.heap.size (.slice a outs.length c) (iL outs) := zaj ho k3 (fun g hg e => by
     rcases ho.2 with ⟨hn, _⟩ | ⟨g', cap, cur, he, hB, _⟩
     ·rw [hn] at hg; cases hg
     ·rw [he] at hg; have e1 : g' = g := by simpa [Value.ownBlock] using hg
      have e : g = b := e
      omega)
    have K3 := hK.trans' k3
    have hqlt := zcg (some q)
    have hstq := zgk (some q)
    have hgq : numsG (n - i) (some q) = match numR (some q) with | (_, none) => ([], none) | (m, some r) => (match numsG (n - (i + 1)) (some r) with | (l, s) => (m :: l, s)) := by
     obtain ⟨k, hk⟩ : ∃ k, n - i = k + 1 := ⟨n - i - 1, by omega⟩
     rw [hk, show n - (i + 1) = k by omega]; rfl
    obtain ⟨m, t2, hm⟩ : ∃ m t2, numR (some q) = (m, t2) := ⟨_, _, rfl⟩
    rw [hm] at hgq hqlt h3 hstq
    rw [hm]
    dsimp only at hgq hqlt h3 hstq ⊢
    refine RunV.of (bs1I _ _) ?_
    have k4 : Kp w3 (w3.alloc (.cells (List.toArray (inC (m : Int))) 3)) n_ := (Kp.refl _ _).alloc _
    have h4 := zhf w3 3 (inC (m : Int))
    have o4 := zac o3 k4
    have v4 := h3.keep0 k4
    generalize w3.alloc (.cells (List.toArray (inC (m : Int))) 3) = w4 at *
    generalize w3.heap.size = g4 at *
    refine KGO ?_
    have K4 := K3.trans0 k4
    have hol2 := zcV outs
    rw [← hol2]
    rw [← hol2] at o4
    refine tyI.app1 (m : Int) o4 K4.size h4 (by omega) (by omega) fun v5 w5 o5 k5 => ?_
    have hap : iL outs ++ [(m : Int)] = iL (outs ++ [m]) := by simp [iL]
    rw [hap] at o5
    obtain ⟨a5, c5, rfl⟩ := zab o5
    have K5 := zaA o4 k5 K4 (Nat.le_refl _)
    have v5 : VarK w5 b 139 (rdC t2) := v4.keep k5 (fun e => by
     rcases o4.2 with ⟨hn, _⟩ | ⟨g', cap, cur, he, hB, _⟩
     ·have e : Value.ownBlock (.slice a (iL outs).length c) = some b := e
      rw [hn] at e; cases e
     ·have e : Value.ownBlock (.slice a (iL outs).length c) = some b := e
      rw [he] at e; have e1 : g' = b := by simpa [Value.ownBlock] using e
      omega)
    refine KGO ?_
    refine ⟨(i + 1, outs ++ [m], t2, a5, c5), ⟨rfl, rfl, rfl, congrArg (fun n => Value.slice a5 n c5) (zcV _), v_int (by simp), trivial⟩, ⟨K5, v5, ?_, by omega, by simp [hol], ?_, ?_⟩, by dsimp only; omega⟩
    ·rw [zcV] at o5; exact o5
    ·exact Nat.le_trans hstq hst
    ·dsimp only
     cases t2 with
     | none => exact .inr ⟨rfl, by rw [hg, hgq]⟩
     | some q2 => exact .inl ⟨q2, rfl, by rw [hg, hgq]; simp⟩
   ·refine KGO ?_
    have hin : i = n := by omega
    subst hin
    rw [Nat.sub_self] at hg
    have hg : numsG i (some r) = (outs, some q) := by rw [hg]; simp [numsG]
    rw [hd, hg]
    exact ⟨_, rfl, ho, hv, hK⟩
  ·have at_ : At wr b 0 [.string ⟨#[]⟩, .bool true] := hv.at
   have hnil : numsR s = ([], none) := by
    rw [hd]
    cases hq : numsG n (some r) with
    | mk l st => rw [hq] at hg; dsimp only at hg; subst hg; rfl
   by_cases hlt2 : i < n
   ·refine KGO ?_
    rw [hnil]
    exact ⟨_, rfl, World.ownsRow_nil _ _ _ _, hv, hK⟩
   ·refine KGO ?_
    rw [hnil]
    exact ⟨_, rfl, World.ownsRow_nil _ _ _ _, hv, hK⟩
theorem zjQ (s : St) (h : VarK w b 139 (rdC s)) (hs : stLen s ≤ 140737488355328 / 16) :
  Calls Tryz.prog 55 #[.pointer (some ⟨b, 0, none⟩)] w fun e w' =>
   ∃ v, e = .returned v ∧ OwnI w' w.heap.size v (iL (numsR s).1) ∧ VarK w' b 139 (rdC (numsR s).2) ∧ Kp w w' (one_ b) := by
 refine zaa (args := [.pointer (some ⟨b, 0, none⟩)]) Tryz.func55 rfl NL ?_; refine GW ?_
 refine CallS.of (Tryz.call118 _ _) (zrI s h hs) ?_
 rintro e w1 ⟨v, rfl, h1, h2, h3⟩
 obtain ⟨a, c, rfl⟩ := zab h1
 refine RT ?_
 exact ⟨_, rfl, h1, h2, h3⟩
end
end Go.Proofs.YtennokckmjcefaaGreatDoor
namespace Go.Proofs.YtennokckmjcefaaGreatDoor
open Go.Shelf Go.RowKit Go.Pw Go.Vc Go.Cs Go.Lib Go.Cd Go.Mg
def notD (D : List TypeId) (w : World) (q : Nat) : Prop := ∀ cs T z, w.heap[q]? = some (.cells cs T z) → T ∉ D
theorem zak {D : List TypeId} {w : World} {b : Nat} {T : TypeId} {cs : List Value} (h : VarK w b T cs) (hT : T ∉ D) : ∀ q, q < w.heap.size → one_ b q → notD D w q := fun q _ e cs' T' z hh => by
 have e : q = b := e
 subst e
 unfold VarK at h
 rw [h] at hh
 injection hh with hh
 injection hh with _ h2
 rw [← h2]; exact hT
theorem zaF {D : List TypeId} {w : World} {B s n : Nat} {E : TypeId} {v : Value} {xs : List Value} (h : w.ownsRow B E s v n xs) (hE : E ∉ D) : ∀ q, q < w.heap.size → own_ v q → notD D w q := fun q _ e cs T z hh => by
 rcases h.2 with ⟨rfl, _⟩ | ⟨g, cap, cur, rfl, _, hr, _⟩
 ·cases e
 ·have e : g = q := by simpa [own_, Value.ownBlock] using e
  subst e
  rw [hr] at hh
  injection hh with hh
  injection hh with _ h2
  rw [← h2]; exact hE
theorem zfq {D : List TypeId} {w : World} : ∀ q, q < w.heap.size → n_ q → notD D w q := fun q _ e => e.elim
theorem zas {w : World} {B s n q : Nat} {E : TypeId} {v : Value} {xs : List Value} (h : w.ownsRow B E s v n xs) (hq : v.ownBlock = some q) : ∃ cs z, w.heap[q]? = some (.cells cs E z) ∧ B ≤ q ∧ q < w.heap.size := by
 rcases h.2 with ⟨rfl, _⟩ | ⟨g, cap, cur, rfl, hb, hr, _⟩
 ·cases hq
 ·injection hq with e
  subst e
  refine ⟨_, _, hr, hb, ?_⟩
  rcases Nat.lt_or_ge g w.heap.size with h' | h'
  ·exact h'
  ·rw [Array.getElem?_eq_none h'] at hr; cases hr
theorem zag {D : List TypeId} {w w' : World} {c : Nat → Prop} {B s n : Nat} {E : TypeId} {v : Value} {xs : List Value} (h : w.ownsRow B E s v n xs) (k : Kp w w' c) (hc : ∀ q, q < w.heap.size → c q → notD D w q) (hE : E ∈ D) : w'.ownsRow B E s v n xs :=
 zaj h k fun q hq e => by
  obtain ⟨cs, z, hh, _, hlt⟩ := zas h hq
  exact hc q hlt e _ _ _ hh hE
theorem zio {w w' : World} {c : Nat → Prop} {B s n : Nat} {E : TypeId} {v : Value} {xs : List Value} (h : w.ownsRow B E s v n xs) (k : Kp w w' c) (hc : ∀ q, c q → w.heap.size ≤ q) : w'.ownsRow B E s v n xs :=
 zaj h k fun q hq e => by
  obtain ⟨cs, z, hh, _, hlt⟩ := zas h hq
  have := hc q e; omega
theorem zae {w : World} {B s n b : Nat} {E T : TypeId} {v : Value} {xs cs : List Value} (h : w.ownsRow B E s v n xs) (hv : VarK w b T cs) (hne : E ≠ T) : ¬ own_ v b := fun e => by
 obtain ⟨cs', z, hh, _⟩ := zas h e
 unfold VarK at hv
 rw [hv] at hh
 injection hh with hh
 injection hh with _ h2
 exact hne h2.symm
def CapK (v : Value) : Prop := ∀ a n c, v = .slice a n c → n ≤ c
theorem zda {w : World} {B s n : Nat} {E : TypeId} {v : Value} {xs : List Value} (h : w.ownsRow B E s v n xs) : CapK v := fun a n' c e => by
 subst e
 rcases h.2 with ⟨h1, h2⟩ | ⟨g, cap', cur, h1, hb, hgg, h3, h4, _⟩
 ·injection h1 with _ h5 h6
  omega
 ·injection h1 with _ h5 h6
  omega
def bldQ (w : World) (B b : Nat) : Nat → Prop := fun q => B ≤ q ∧ (q = b ∨ ∃ cs z, w.heap[q]? = some (.cells cs 5 z))
theorem zog {w w' : World} {B b : Nat} (hb : Below B w w') (ho : OthersKept 5 (some b) w w') : Kp w w' (bldQ w B b) := ⟨hb.os, hb.tape, hb.output, hb.size, fun k hk hn => by
 by_cases hkB : k < B
 ·exact hb.block k hkB
 ·obtain ⟨o, ho'⟩ : ∃ o, w.heap[k]? = some o := ⟨w.heap[k], Array.getElem?_eq_getElem hk⟩
  rw [ho']
  exact ho k o ho' (fun e => hn ⟨by omega, .inl (by injection e)⟩) (fun c fz e => hn ⟨by omega, .inr ⟨c, fz, by rw [ho', e]⟩⟩)⟩
theorem zkq {w : World} {B b q : Nat} {T : TypeId} {cs : List Value} (h : VarK w q T cs) (hT : T ≠ 5) (hne : q ≠ b) : ¬ bldQ w B b q := fun ⟨_, e⟩ => by
 rcases e with e | ⟨cs', z, e⟩
 ·exact hne e
 ·unfold VarK at h
  rw [h] at e
  injection e with e
  injection e with _ e
  exact hT e
theorem zqU {w : World} {B b : Nat} {l : List UInt8} (h : Bld w B b l) : b < w.heap.size := by
 rcases h with ⟨_, v, hb, _⟩ | ⟨_, v, hb, _⟩ <;> exact zbm hb
theorem zmU {a w w' : World} {c : Nat → Prop} {B b : Nat} (h : Kp a w c) (k : Kp w w' (bldQ w B b)) (hB : a.heap.size ≤ B) : Kp a w' c :=
 h.trans k fun q hq e => by have := e.1; omega
structure Pr where
 p : Pst
 h : Sl
instance : Inhabited Pr := ⟨⟨⟨0, []⟩, ⟨none, 0, 0⟩⟩⟩
def prC (x : Pr) : List Value := [.int .i64 x.p.doc, .slice x.h.a x.h.n x.h.c]
theorem lenPr (x : Pr) : (prC x).length = 2 := rfl
theorem infoPr : (Tryz.prog.info? 44).map (fun i => (i.zero, i.size, i.bytes)) = some (some (.agg #[.int .i64 0, .slice none 0 0]), 2, 32) := by kernel_rfl
theorem tyP : RowTy 37 44 prC 2 32 := ⟨Tryz.underlying37, ⟨_, infoPr, rfl⟩, by decide, lenPr, fun x => List.all_eq_true.1 (by rfl)⟩
theorem RowI_at {w : World} {s : Sl} {l : List Int} (h : RowI w s.v l) (h0 : 0 < l.length) : ∃ g o, s.a = some ⟨g, o, none⟩ ∧ At w g o (l.flatMap inC) := by
 obtain ⟨a, c, e, hr⟩ := h
 obtain ⟨g, o, e2, _, hat⟩ := hr h0
 injection e with e3
 exact ⟨g, o, e3.trans e2, hat⟩
structure RdP (w : World) (v : Value) (lx : List Pr) : Prop where
 row : RowO w v prC lx
 pl : ∀ x ∈ lx, RowI w x.h.v x.p.places
 cap : CapK v
 plc : ∀ x ∈ lx, CapK x.h.v
theorem RdP.keep {w w' : World} {v : Value} {lx : List Pr} (h : RdP w v lx) (k : Kp w w' n_) : RdP w' v lx := ⟨h.row.keep k, fun x hx => (h.pl x hx).keep k, h.cap, h.plc⟩
def RowP (w : World) (v : Value) (l : List Pst) : Prop := ∃ lx, lx.map (·.p) = l ∧ RdP w v lx
theorem RowP.keep {w w' : World} {v : Value} {l : List Pst} (h : RowP w v l) (k : Kp w w' n_) : RowP w' v l := let ⟨lx, h1, h2⟩ := h; ⟨lx, h1, h2.keep k⟩
structure OwP (w : World) (B : Nat) (v : Value) (lx : List Pr) : Prop where
 row : OwnR 44 prC 2 w B v lx
 pl : ∀ x ∈ lx, OwnI w B x.h.v x.p.places
def DP : List TypeId := [3, 44]
theorem OwP.rd {w : World} {B : Nat} {v : Value} {lx : List Pr} (h : OwP w B v lx) : RdP w v lx := ⟨zao h.row, fun x hx => zao (h.pl x hx), zda h.row, fun x hx => zda (h.pl x hx)⟩
theorem OwP.keepT {w w' : World} {c : Nat → Prop} {B : Nat} {v : Value} {lx : List Pr} (h : OwP w B v lx) (k : Kp w w' c) (hc : ∀ q, q < w.heap.size → c q → notD DP w q) : OwP w' B v lx :=
 ⟨zag h.row k hc (by decide), fun x hx => zag (h.pl x hx) k hc (by decide)⟩
theorem OwP.keep {w w' : World} {B : Nat} {v : Value} {lx : List Pr} (h : OwP w B v lx) (k : Kp w w' n_) : OwP w' B v lx := h.keepT k zfq
theorem OwP.keepL {w w' : World} {c : Nat → Prop} {B : Nat} {v : Value} {lx : List Pr} (h : OwP w B v lx) (k : Kp w w' c) (hc : ∀ q, c q → w.heap.size ≤ q) : OwP w' B v lx :=
 ⟨zio h.row k hc, fun x hx => zio (h.pl x hx) k hc⟩
theorem OwP.base {w : World} {B B' : Nat} {v : Value} {lx : List Pr} (h : OwP w B v lx) (hB : B' ≤ B) : OwP w B' v lx := ⟨zax h.row hB, fun x hx => zax (h.pl x hx) hB⟩
def OwnP (w : World) (B : Nat) (v : Value) (l : List Pst) : Prop := ∃ lx, lx.map (·.p) = l ∧ OwP w B v lx
theorem OwnP.row {w : World} {B : Nat} {v : Value} {l : List Pst} (h : OwnP w B v l) : RowP w v l := let ⟨lx, h1, h2⟩ := h; ⟨lx, h1, h2.rd⟩
theorem OwnP.keepT {w w' : World} {c : Nat → Prop} {B : Nat} {v : Value} {l : List Pst} (h : OwnP w B v l) (k : Kp w w' c) (hc : ∀ q, q < w.heap.size → c q → notD DP w q) : OwnP w' B v l := let ⟨lx, h1, h2⟩ := h; ⟨lx, h1, h2.keepT k hc⟩
theorem OwnP.keep {w w' : World} {B : Nat} {v : Value} {l : List Pst} (h : OwnP w B v l) (k : Kp w w' n_) : OwnP w' B v l := h.keepT k zfq
theorem OwnP.keepL {w w' : World} {c : Nat → Prop} {B : Nat} {v : Value} {l : List Pst} (h : OwnP w B v l) (k : Kp w w' c) (hc : ∀ q, c q → w.heap.size ≤ q) : OwnP w' B v l := let ⟨lx, h1, h2⟩ := h; ⟨lx, h1, h2.keepL k hc⟩
theorem OwnP.base {w : World} {B B' : Nat} {v : Value} {l : List Pst} (h : OwnP w B v l) (hB : B' ≤ B) : OwnP w B' v l := let ⟨lx, h1, h2⟩ := h; ⟨lx, h1, h2.base hB⟩
theorem OwnP.shape {w : World} {B : Nat} {v : Value} {l : List Pst} (h : OwnP w B v l) : ∃ a c, v = .slice a l.length c := by
 obtain ⟨lx, h1, h2⟩ := h
 obtain ⟨a, c, e⟩ := zab h2.row
 exact ⟨a, c, by rw [e, ← h1, List.length_map]⟩
theorem RowP.shape {w : World} {v : Value} {l : List Pst} (h : RowP w v l) : ∃ a c, v = .slice a l.length c := by
 obtain ⟨lx, h1, h2⟩ := h
 obtain ⟨a, c, e, _⟩ := h2.row
 exact ⟨a, c, by rw [e, ← h1, List.length_map]⟩
theorem zbn (w : World) (B : Nat) : OwnP w B (.slice none 0 0) [] := ⟨[], rfl, ⟨⟨rfl, .inl ⟨rfl, rfl⟩⟩, fun x h => by cases h⟩⟩
section
variable {w : World}
theorem zkS {v : Value} (l : List Int) (low : Int) (hv : RowI w v l) (hl : l.length ≤ 17592186044416) (hlow : -9223372036854775808 ≤ low ∧ low ≤ 9223372036854775807) : Calls Tryz.prog 238 #[v, .int .i64 low] w fun e w' => e = .returned (.bool (risesB low l)) ∧ Kp w w' n_ := by
 obtain ⟨a, ca, rfl, hra⟩ := hv
 refine zaa (args := [.slice a l.length ca, .int .i64 low]) Tryz.func238 rfl NL ?_; refine GW ?_
 refine Loop.intro (ι := Nat × Int) (fun i => [(1, .int .i64 i.2), (7, .slice a l.length ca), (8, .int .i64 (l.length : Nat)), (9, .int .i64 (i.1 : Nat))])
  (fun i wr => Kp w wr n_ ∧ i.1 ≤ l.length ∧ risesB low l = risesB i.2 (l.drop i.1) ∧ -9223372036854775808 ≤ i.2 ∧ i.2 ≤ 9223372036854775807) (fun i => l.length - i.1) (0, low) ⟨rfl, rfl, rfl, rfl, trivial⟩ ⟨Kp.refl _ _, Nat.zero_le _, rfl, hlow⟩ ?_
 rintro ⟨i, lo⟩ gg wr ⟨hK, hi, ht, hlo⟩
 dsimp only at hi ht hlo ⊢
 refine GW ?_
 by_cases hlt : i < l.length
 ·obtain ⟨ga, oa, rfl, hga, hata⟩ := hra (by omega)
  have ca := zbh hata hlt
  rw [List.drop_eq_getElem_cons hlt, risesB] at ht
  by_cases h1 : l[i] < lo
  ·refine KGO ?_
   exact ⟨zan (by rw [ht, decide_eq_false (by omega)]; rfl), hK⟩
  by_cases h2 : 1099511627776 < l[i]
  ·refine KGO ?_
   exact ⟨zan (by rw [ht, decide_eq_false (by omega)]; rfl), hK⟩
  refine KGO ?_
  exact ⟨(i + 1, l[i] + 1), ⟨rfl, rfl, rfl, v_int (by simp), trivial⟩, ⟨hK, by dsimp only; omega, by rw [ht, decide_eq_true (by omega)]; rfl, by dsimp only; omega⟩, by dsimp only; omega⟩
 ·refine KGO ?_
  rw [List.drop_eq_nil_of_le (by omega)] at ht
  exact ⟨zan (by rw [ht]; rfl), hK⟩
theorem zmx {v : Value} (lx : List Pr) (hv : RdP w v lx) (hl : lx.length ≤ 1000000000000) : Calls Tryz.prog 105 #[v] w fun e w' => ∃ v', e = .returned v' ∧ OwnI w' w.heap.size v' (lx.map (·.p.doc)) ∧ Kp w w' n_ := by
 obtain ⟨⟨a, ca, rfl, hra⟩, _, _, _⟩ := hv
 refine zaa (args := [.slice a lx.length ca]) Tryz.func105 rfl NL ?_; refine GW ?_
 refine Loop.intro (ι := Nat × Value) (fun i => [(3, i.2), (6, .slice a lx.length ca), (7, .int .i64 (lx.length : Nat)), (8, .int .i64 (i.1 : Nat))])
  (fun i wr => Kp w wr n_ ∧ i.1 ≤ lx.length ∧ OwnI wr w.heap.size i.2 ((lx.take i.1).map (·.p.doc))) (fun i => lx.length - i.1) (0, .slice none 0 0) ⟨rfl, rfl, rfl, rfl, trivial⟩ ⟨Kp.refl _ _, Nat.zero_le _, World.ownsRow_nil _ _ _ _⟩ ?_
 rintro ⟨i, vo⟩ gg wr ⟨hK, hi, ho⟩
 dsimp only at hi ho ⊢
 obtain ⟨ao, co, rfl⟩ := zab ho
 have hzr := hK.size
 refine GW ?_
 by_cases hlt : i < lx.length
 ·obtain ⟨ga, oa, rfl, hga, hata⟩ := hra (by omega)
  refine KGO ?_
  refine Store.fresh (vs := prC lx[i]) (by rfl) rfl (zar (by rfl)) ?_
  obtain ⟨a_b1, k_w1, z_w1⟩ := new3 wr 44 (prC lx[i])
  generalize wr.alloc (.cells (List.toArray (prC lx[i])) 44) = w1 at *
  generalize hs_b1 : wr.heap.size = b1 at *
  refine KGO ?_
  refine RunV.of (bs1I lx[i].p.doc _) ?_
  obtain ⟨a_b2, v_b2, k_w2, z_w2, r_w2⟩ := new5 w1 3 (inC lx[i].p.doc)
  generalize w1.alloc (.cells (List.toArray (inC lx[i].p.doc)) 3) = w2 at *
  generalize hs_b2 : w1.heap.size = b2 at *
  refine KGO ?_
  refine tyI.app1 lx[i].p.doc (zac (zac ho k_w1) k_w2) (by omega) a_b2 (by rw [List.length_map, List.length_take]; omega) (by rw [List.length_map, List.length_take]; omega) fun v3 w3 o3 k3 => ?_
  have J3 := zaA (zac (zac ho k_w1) k_w2) k3 (hK.trans0 (k_w1.trans0 k_w2)) (Nat.le_refl _)
  obtain ⟨a3, c3, rfl⟩ := zab o3
  refine KGO ?_
  exact ⟨(i + 1, _), ⟨rfl, rfl, rfl, v_int (by simp), trivial⟩, ⟨J3, by dsimp only; omega, by rw [List.take_succ_eq_append_getElem hlt, List.map_append]; exact o3⟩, by dsimp only; omega⟩
 ·refine KGO ?_
  obtain rfl : i = lx.length := by omega
  rw [List.take_length] at ho
  exact ⟨_, rfl, by rw [List.take_length]; exact ho, hK⟩
theorem zpQ {v : Value} (l : List Pst) (hv : RowP w v l) (hl : l.length ≤ 1000000000000) (hpn : ∀ p ∈ l, p.places.length ≤ 17592186044416) : Calls Tryz.prog 205 #[v] w fun e w' => e = .returned (.bool (rightP l)) ∧ Kp w w' n_ := by
 obtain ⟨lx, rfl, hv⟩ := hv
 rw [List.length_map] at hl
 have hpn : ∀ x ∈ lx, x.p.places.length ≤ 17592186044416 := fun x hx => hpn x.p (List.mem_map_of_mem hx)
 have hv0 := hv
 obtain ⟨⟨a, ca, rfl, hra⟩, hpl, _, _⟩ := hv
 refine zaa (args := [.slice a lx.length ca]) Tryz.func205 rfl NL ?_; refine GW ?_
 refine Loop.intro (ι := Nat) (fun i => [(0, .slice a lx.length ca), (5, .slice a lx.length ca), (6, .int .i64 (lx.length : Nat)), (7, .int .i64 (i : Nat))])
  (fun i wr => Kp w wr n_ ∧ i ≤ lx.length ∧ ∀ x ∈ lx.take i, okPl x.p = true) (fun i => lx.length - i) 0 ⟨rfl, rfl, rfl, rfl, trivial⟩ ⟨Kp.refl _ _, Nat.zero_le _, by simp⟩ ?_
 rintro i gg wr ⟨hK, hi, ht⟩
 refine GW ?_
 by_cases hlt : i < lx.length
 ·obtain ⟨ga, oa, rfl, hga, hata⟩ := hra (by omega)
  have hpi := (hpl lx[i] (List.getElem_mem hlt)).keep hK
  have hno : okPl lx[i].p = false → rightP (lx.map (·.p)) = false := fun h => by
   unfold rightP
   rw [List.all_eq_false.2 ⟨lx[i].p, List.mem_map_of_mem (List.getElem_mem hlt), by rw [h]; decide⟩]; rfl
  have hn := RowO.len hpi
  refine KGO ?_
  refine Store.fresh (vs := prC lx[i]) (by rfl) rfl (zar (by rfl)) ?_
  obtain ⟨a_b1, k_w1, z_w1⟩ := new3 wr 44 (prC lx[i])
  generalize wr.alloc (.cells (List.toArray (prC lx[i])) 44) = w1 at *
  generalize hs_b1 : wr.heap.size = b1 at *
  have J1 := hK.trans0 k_w1
  refine KGO ?_
  rw [hn]
  by_cases h0 : lx[i].p.places.length = 0
  ·refine KGO ?_
   exact ⟨zan (hno (by unfold okPl; rw [List.eq_nil_of_length_eq_zero h0]; rfl)).symm, J1⟩
  refine KGO ?_
  refine CallS.of (Tryz.call238 _ _) (zkS (w := w1) lx[i].p.places 0 (hpi.keep k_w1) (hpn _ (List.getElem_mem hlt)) (by omega)) ?_
  rintro e w2 ⟨rfl, k2⟩
  have J2 := J1.trans0 k2
  have hok : okPl lx[i].p = risesB 0 lx[i].p.places := by
   unfold okPl
   rw [show lx[i].p.places.isEmpty = false from by cases h : lx[i].p.places with | nil => rw [h] at h0; exact absurd rfl h0 | cons => rfl]; rfl
  rw [← hok]
  refine RT ?_
  cases hq : okPl lx[i].p with
  | false =>
   refine KGO ?_
   exact ⟨zan (hno hq).symm, J2⟩
  | true =>
   refine KGO ?_
   exact ⟨i + 1, ⟨rfl, rfl, rfl, v_int (by simp), trivial⟩, ⟨J2, by omega, fun x hx => by
    rw [List.take_succ_eq_append_getElem hlt, List.mem_append, List.mem_singleton] at hx
    rcases hx with hx | rfl
    ·exact ht x hx
    ·exact hq⟩, by dsimp only; omega⟩
 ·rw [List.take_of_length_le (by omega)] at ht
  refine KGO ?_
  refine CallS.of (Tryz.call105 _ _) (zmx (w := wr) lx (hv0.keep hK) hl) ?_
  rintro e w1 ⟨v1, rfl, o1, k1⟩
  obtain ⟨a1, c1, rfl⟩ := zab o1
  refine RT ?_
  refine CallS.of (Tryz.call238 _ _) (zkS (w := w1) (lx.map (·.p.doc)) 1 (zao o1) (by rw [List.length_map]; omega) (by omega)) ?_
  rintro e w2 ⟨rfl, k2⟩
  refine RT ?_
  exact ⟨zan (by
   unfold rightP
   rw [List.all_eq_true.2 (fun p hp => by obtain ⟨x, hx, rfl⟩ := List.mem_map.1 hp; exact ht x hx), List.map_map]; rfl), (hK.trans0 k1).trans0 k2⟩
theorem zhr {b B : Nat} {pre : List UInt8} (n : Nat) (hb : Bld w B b pre) (hn : n < 2 ^ 63) (hsz : pre.length + (numE n).length ≤ 140737488355328) (hB : B ≤ w.heap.size) :
  Calls Tryz.prog 206 #[.int .i64 (n : Nat), .pointer (some ⟨b, 0, none⟩)] w fun e w' => e = .returned (.tuple #[]) ∧ Bld w' B b (pre ++ numE n) ∧ Kp w w' (bldQ w B b) := by
 refine zaa (args := [.int .i64 (n : Nat), .pointer (some ⟨b, 0, none⟩)]) Tryz.func206 rfl NL ?_; refine GW ?_
 refine CallS.of (Tryz.call67 _ _) (zft n hn) ?_
 rintro e w1 ⟨rfl, k1⟩
 refine RT ?_
 have hln := zaC hn
 have hsz2 : (str (numE n)).size = (numE n).length := rfl
 refine CallS.of (Tryz.call66 _ _) (zaS (str (numE n)) w1 (zaY hb k1) (by rw [hsz2]; omega) (Nat.le_trans hB k1.size)) ?_
 rintro e w2 ⟨rfl, hb2, hbe, hok⟩
 refine RT ?_
 have k2 := zog hbe hok
 exact ⟨rfl, hb2, ⟨k2.os.trans k1.os, k2.tape.trans k1.tape, k2.output.trans k1.output, Nat.le_trans k1.size k2.size, fun q hq hn => (k2.block q (Nat.lt_of_lt_of_le hq k1.size) fun e => hn ⟨e.1, e.2.imp id fun ⟨cs, z, h⟩ => ⟨cs, z, (k1.block q hq id).symm.trans h⟩⟩).trans (k1.block q hq id)⟩⟩
theorem zdB {v : Value} (l : List Pst) (hv : RowP w v l) (hl : l.length ≤ 1000000000000) (hpn : ∀ p ∈ l, p.places.length ≤ 17592186044416) (hsz : 9 * (encN 0 l).length + 9 ≤ 140737488355328) :
  Calls Tryz.prog 142 #[v] w fun e w' => e = .returned (.string (str (encP l))) ∧ Kp w w' n_ := by
 have hv0 := hv
 obtain ⟨lx, rfl, hv⟩ := hv
 rw [List.length_map] at hl
 obtain ⟨⟨a, ca, rfl, hra⟩, hpl, _, _⟩ := hv
 refine zaa (args := [.slice a lx.length ca]) Tryz.func142 rfl NL ?_; refine GW ?_
 refine CallS.of (Tryz.call205 _ _) (zpQ (w := w) (lx.map (·.p)) hv0 (by rw [List.length_map]; exact hl) hpn) ?_
 rintro e w1 ⟨rfl, k1⟩
 refine RT ?_
 cases hq : rightP (lx.map (·.p)) with
 | false =>
  refine KGO ?_
  exact ⟨by unfold encP; rw [hq]; rfl, k1⟩
 | true =>
 refine KGO ?_
 have hb0 := zea w1 w1.heap.size (Nat.le_refl _)
 have K0 : Kp w1 (w1.alloc (.cells #[.pointer none, .slice none 0 0] 93)) n_ := (Kp.refl _ _).alloc _
 generalize w1.alloc (.cells #[.pointer none, .slice none 0 0] 93) = w2 at *
 generalize hs_b : w1.heap.size = b at *
 have hr := zbO.1 hq
 have hdl := zhw hq
 refine KGO ?_
 have hK0 : ∀ u u', Kp u u' (bldQ u b b) → Kp w1 u n_ → Kp w1 u' n_ := fun u u' h k => zmU k h (by omega)
 have hel := zdk (lx.map (·.p))
 have het := zcM hq
 rw [List.length_map] at het
 obtain ⟨tot, htot⟩ : ∃ t, encP (lx.map (·.p)) = t := ⟨_, rfl⟩
 rw [htot] at hel het
 have hzz : ∀ u, Kp w1 u n_ → b ≤ u.heap.size := fun u k => by have := k.size; omega
 have hlen2 : (numE lx.length).length ≤ tot.length := by rw [het, List.length_append]; omega
 refine CallS.of (Tryz.call206 _ _) (zhr (w := w2) lx.length hb0 (by omega) (by simp; omega) (hzz _ K0)) ?_
 rintro e w3 ⟨rfl, hb3, hk3⟩
 have J3 : Kp w1 w3 n_ := hK0 _ _ hk3 K0
 clear hb0 hk3 hlen2
 refine RT ?_
 refine Loop.intro (ι := Nat × Int) (fun i => [(3, .pointer (some ⟨b, 0, none⟩)), (4, .func (.func 206) #[] #[.pointer (some ⟨b, 0, none⟩)]), (5, .int .i64 i.2), (19, .slice a lx.length ca), (20, .int .i64 (lx.length : Nat)), (21, .int .i64 (i.1 : Nat))])
  (fun i wr => Kp w1 wr n_ ∧ i.1 ≤ lx.length ∧ 0 ≤ i.2 ∧ i.2 ≤ 1099511627776 ∧ risesB i.2 ((lx.drop i.1).map (·.p.doc)) = true ∧ ∃ pre, Bld wr b b pre ∧ pre ++ (encN i.2 ((lx.drop i.1).map (·.p))).flatMap numE = tot) (fun i => lx.length - i.1) (0, 0)
  ⟨rfl, by simp [upd], rfl, rfl, rfl, rfl, trivial⟩ ⟨J3, Nat.zero_le _, by decide, by decide, by have := zbN hr.2 (show (0 : Int) ≤ 1 by decide); rw [List.map_map] at this; exact this, _, hb3, het.symm⟩ ?_
 rintro ⟨i, d⟩ gg wr ⟨hK, hi, hd0, hdm, hrs, pre, hbr, hpre⟩
 dsimp only at hi hd0 hdm hrs hpre ⊢
 refine GW ?_
 by_cases hlt : i < lx.length
 rotate_left
 ·refine KGO ?_
  rw [List.drop_eq_nil_of_le (by omega)] at hpre
  refine CallS.of (Tryz.call71 _ _) (zdb wr hbr (hzz _ hK)) ?_
  rintro e w4 ⟨rfl, hb4, hbe4, _⟩
  refine RT ?_
  exact ⟨by rw [htot, ← hpre]; simp [encN], (k1.trans0 hK).below' hbe4 (by have := k1.size; omega)⟩
 obtain ⟨ga, oa, rfl, hga, hata⟩ := hra (by omega)
 have hpi := (hpl lx[i] (List.getElem_mem hlt)).keep (k1.trans0 hK)
 have hri := hr.1 lx[i].p (List.mem_map_of_mem (List.getElem_mem hlt))
 have hpni := hpn lx[i].p (List.mem_map_of_mem (List.getElem_mem hlt))
 rw [List.drop_eq_getElem_cons hlt, List.map_cons] at hrs hpre
 rw [risesB, Bool.and_eq_true, decide_eq_true_eq] at hrs
 rw [encN] at hpre
 obtain ⟨⟨h1, h2⟩, hrs⟩ := hrs
 have hKw := k1.trans0 hK
 have hn : lx[i].h.n = lx[i].p.places.length := RowO.len hpi
 have hbl := zqU hbr
 refine KGO ?_
 have v_b4 := VarK.new wr 44 (prC lx[i])
 refine Store.fresh (vs := prC lx[i]) (by rfl) rfl (zar (by rfl)) ?_
 obtain ⟨a_b4, k_w4, z_w4⟩ := new3 wr 44 (prC lx[i])
 generalize wr.alloc (.cells (List.toArray (prC lx[i])) 44) = w4 at *
 generalize hs_b4 : wr.heap.size = b4 at *
 unfold prC at v_b4
 rw [hn] at v_b4
 have a_b4 := v_b4.at
 have K4 := hK.trans0 k_w4
 have hzr := hzz _ hK
 refine KGO ?_
 have e1 : lx[i].p.doc - d = (((lx[i].p.doc - d).toNat : Nat) : Int) := by omega
 rw [e1]
 have hle := congrArg List.length hpre
 simp only [List.flatMap_cons, List.length_append] at hle
 refine CallS.of (Tryz.call206 _ _) (zhr (w := w4) (lx[i].p.doc - d).toNat (zaY hbr k_w4) (by omega) (by omega) (hzz _ K4)) ?_
 rintro e w5 ⟨rfl, hb5, hk5⟩
 have K5 : Kp w1 w5 n_ := hK0 _ _ hk5 K4
 have v_b4 := v_b4.keep hk5 (zkq v_b4 (by decide) (by omega))
 have a_b4 := v_b4.at
 clear hk5 hbr
 refine RT ?_
 refine KGO ?_
 refine CallS.of (Tryz.call206 _ _) (zhr (w := w5) lx[i].p.places.length hb5 (by omega) (by rw [List.length_append]; omega) (hzz _ K5)) ?_
 rintro e w6 ⟨rfl, hb6, hk6⟩
 have K6 : Kp w1 w6 n_ := hK0 _ _ hk6 K5
 have v_b4 := v_b4.keep hk6 (zkq v_b4 (by decide) (by omega))
 have a_b4 := v_b4.at
 clear hk6 hb5
 refine RT ?_
 refine KGO ?_
 have hdf := zdF lx[i].p.places 0
 obtain ⟨REST, hR⟩ : ∃ R, (encN lx[i].p.doc ((lx.drop (i + 1)).map (·.p))).flatMap numE = R := ⟨_, rfl⟩
 rw [List.flatMap_cons, List.flatMap_cons, List.flatMap_append, hR, ← List.append_assoc, ← List.append_assoc] at hpre
 refine Loop.intro (ι := Nat × Int) (fun j => [(3, .pointer (some ⟨b, 0, none⟩)), (4, .func (.func 206) #[] #[.pointer (some ⟨b, 0, none⟩)]), (5, .int .i64 lx[i].p.doc), (8, .int .i64 j.2), (19, .slice (some ⟨ga, oa, none⟩) lx.length ca), (20, .int .i64 (lx.length : Nat)), (21, .int .i64 (i : Nat)),
   (39, .slice lx[i].h.a lx[i].p.places.length lx[i].h.c), (40, .int .i64 (lx[i].p.places.length : Nat)), (41, .int .i64 (j.1 : Nat))])
  (fun j wr => Kp w1 wr n_ ∧ j.1 ≤ lx[i].p.places.length ∧ 0 ≤ j.2 ∧ j.2 ≤ 1099511627776 ∧ risesB j.2 (lx[i].p.places.drop j.1) = true ∧ ∃ pre, Bld wr b b pre ∧ pre ++ ((difs j.2 (lx[i].p.places.drop j.1)).flatMap numE ++ REST) = tot) (fun j => lx[i].p.places.length - j.1) (0, 0)
  ⟨rfl, rfl, rfl, rfl, rfl, rfl, rfl, rfl, rfl, rfl, trivial⟩ ⟨K6, Nat.zero_le _, by decide, by decide, hri.2, _, hb6, hpre⟩ ?_
 clear hb6 hpre hle K6 v_b4 a_b4 hbl pre
 rintro ⟨j, at_⟩ gg2 wq ⟨hQ, hj, ha0, ham, hrj, pre, hbr, hpre⟩
 dsimp only at hj ha0 ham hrj hpre ⊢
 have hbl := zqU hbr
 refine GW ?_
 by_cases hlj : j < lx[i].p.places.length
 ·obtain ⟨gp, op, hgp, hpt⟩ := RowI_at (hpl lx[i] (List.getElem_mem hlt)) (by omega)
  rw [hgp]
  have cj := zbh hpt hlj
  rw [List.drop_eq_getElem_cons hlj] at hrj hpre
  rw [risesB, Bool.and_eq_true, decide_eq_true_eq] at hrj
  rw [difs, List.flatMap_cons, List.append_assoc, ← List.append_assoc] at hpre
  obtain ⟨⟨h3, h4⟩, hrj⟩ := hrj
  have hle := congrArg List.length hpre
  simp only [List.length_append] at hle
  have hQw := k1.trans0 hQ
  clear hata hra hpl
  refine KGO ?_
  have e1 : lx[i].p.places[j] - at_ = (((lx[i].p.places[j] - at_).toNat : Nat) : Int) := by omega
  rw [e1]
  refine CallS.of (Tryz.call206 _ _) (zhr (w := wq) (lx[i].p.places[j] - at_).toNat hbr (by omega) (by omega) (hzz _ hQ)) ?_
  rintro e w5 ⟨rfl, hb5, hk5⟩
  have Q5 : Kp w1 w5 n_ := hK0 _ _ hk5 hQ
  clear hk5 hbr
  refine RT ?_
  refine KGO ?_
  exact ⟨(j + 1, lx[i].p.places[j]), ⟨rfl, rfl, rfl, rfl, rfl, rfl, rfl, rfl, rfl, v_int (by simp), trivial⟩, ⟨Q5, by dsimp only; omega, by dsimp only; omega, by dsimp only; omega, zbN hrj (by omega), _, hb5, hpre⟩, by dsimp only; omega⟩
 ·refine KGO ?_
  rw [List.drop_eq_nil_of_le (by omega)] at hpre
  rw [← hR] at hpre
  exact ⟨(i + 1, lx[i].p.doc), ⟨rfl, rfl, rfl, rfl, rfl, v_int (by simp), trivial⟩, ⟨hQ, by dsimp only; omega, by dsimp only; omega, by dsimp only; omega, zbN hrs (by omega), pre, hbr, by simpa [difs] using hpre⟩, by dsimp only; omega⟩
end
end Go.Proofs.YtennokckmjcefaaGreatDoor
