/- Helper text of this claim: lemmas and contracts that the proved statement rests on; no conditions of its own. -/
import Derived.Test.YtcplagfblmemhaaGreatDoorGCd3
namespace Go.Proofs.YtcplagfblmemhaaGreatDoor
set_option linter.unusedVariables false
set_option maxHeartbeats 4000000
open Go.Shelf Go.RowKit Go.Pw Go.Vc Go.Cs Go.Lib Go.Cd
set_option linter.unusedVariables false
set_option maxRecDepth 100000
theorem zoj (s : St) : ∀ u r, s = some u → (numR s).2 = some r → r.length < u.length := by
 rintro u r rfl h
 unfold numR at h
 dsimp only at h
 split at h
 ·cases h
 ·rename_i n r' hd
  injection h with h; subst h
  exact (zef 9 false u n r' hd).2
theorem zfG (s : St) : (numR s).1 < 2 ^ 63 := by
 unfold numR
 split
 ·decide
 ·split
  ·decide
  ·rename_i h; have := (zef _ _ _ _ _ h).1; dsimp only; omega
theorem znb {s : St} (h : (numR s).2 = none) : (numR s).1 = 0 := by
 cases s with
 | none => rfl
 | some u =>
  unfold numR at h ⊢
  dsimp only at h ⊢
  cases hd : numD 9 false u with
  | none => rfl
  | some p => rw [hd] at h; cases h
def stLen : St → Nat
 | none => 0
 | some u => u.length
theorem zbl (s : St) : stLen (numR s).2 ≤ stLen s := by
 cases h : (numR s).2 with
 | none => simp [stLen]
 | some r =>
  cases s with
  | none => simp [numR] at h
  | some u => have := zoj (some u) u r rfl h; simp only [stLen]; omega
section
variable {w : World} {b : Nat}
theorem zpV (s : St) (h : VarK w b 130 (rdC s)) (hs : stLen s ≤ 140737488355328 / 16) :
  Calls Tryz.prog 74 #[.pointer (some ⟨b, 0, none⟩), .func (.func 42) #[.pointer (some ⟨b, 0, none⟩)] #[]] w fun e w' =>
   ∃ v, e = .returned v ∧ OwnI w' w.heap.size v (iL (numsR s).1) ∧ VarK w' b 130 (rdC (numsR s).2) ∧ Kp w w' (one_ b) := by
 have hs0 : ∀ u, s = some u → u.length ≤ 140737488355328 := by rintro u rfl; simp only [stLen] at hs; omega
 have hlt := h.lt
 refine zaa (args := [.pointer (some ⟨b, 0, none⟩), .func (.func 42) #[.pointer (some ⟨b, 0, none⟩)] #[]]) Tryz.func74 rfl NL ?_; refine GW ?_
 refine CallS.of (Tryz.call42 _ _) (zfc s h hs0) ?_
 rintro e w1 ⟨rfl, h1, k1⟩
 refine RT ?_
 have hle := zbl s
 have hn63 := zfG s
 have hnn := @znb s
 have hd : numsR s = match numR s with | (_, none) => ([], none) | (n, some r) => if r.length < n then ([], none) else (match numsG n (some r) with | (_, none) => ([], none) | p => p) := rfl
 obtain ⟨n, s1, hns⟩ : ∃ n s1, numR s = (n, s1) := ⟨_, _, rfl⟩
 rw [hns] at h1 hle hn63 hnn hd
 rw [hns]
 dsimp only at h1 hle hn63 hnn hd ⊢
 obtain ⟨r0, x0, hc0, hr0⟩ : ∃ r0 x0, rdC s1 = [.string (str r0), .bool x0] ∧ r0.length = stLen s1 ∧ (s1 = none → x0 = true) ∧ (∀ r, s1 = some r → r = r0 ∧ x0 = false) := by
  cases s1 with
  | none => exact ⟨[], true, rfl, rfl, fun _ => rfl, fun _ h => by cases h⟩
  | some r => exact ⟨r, false, rfl, rfl, (fun h => by cases h), fun _ h => by injection h with h; exact ⟨h.symm, rfl⟩⟩
 obtain ⟨hr0l, hx1, hx2⟩ := hr0
 have a1 : At w1 b 0 [.string (str r0), .bool x0] := by rw [← hc0]; exact h1.at
 have hsz : (str r0).size = r0.length := rfl
 by_cases hbig : r0.length < n
 ·refine KGO ?_
  refine CallS.of (Tryz.call72 _ _) (zbW s1 h1) ?_
  rintro e w2 ⟨rfl, h2, k2⟩
  refine RT ?_
  have a2 : At w2 b 0 [.string ⟨#[]⟩, .bool true] := h2.at
  have hnil : numsR s = ([], none) := by
   rw [hd]
   cases s1 with
   | none => rfl
   | some r => obtain ⟨rfl, _⟩ := hx2 r rfl; dsimp only; rw [if_pos hbig]
  refine Loop.intro (ι := Unit) (fun i => [(0, .pointer (some ⟨b, 0, none⟩)), (5, .int .i64 (n : Nat)), (6, .slice none 0 0), (7, .int .i64 0)])
   (fun i wr => wr = w2) (fun i => 0) () ⟨rfl, rfl, rfl, rfl, trivial⟩ rfl ?_
  rintro ⟨⟩ g wr rfl
  refine GW ?_
  have q2 := Kp.refl wr n_
  by_cases hn0 : 0 < n
  ·refine KGO ?_
   rw [hnil]
   exact ⟨_, rfl, World.ownsRow_nil _ _ _ _, h2, k1.trans' k2⟩
  ·omega
 cases s1 with
 | none =>
  have hn0 := hnn rfl
  obtain rfl := hx1 rfl
  have hnil : numsR s = ([], none) := hd
  refine KGO ?_
  refine Loop.intro (ι := Unit) (fun i => [(0, .pointer (some ⟨b, 0, none⟩)), (5, .int .i64 (n : Nat)), (6, .slice none 0 0), (7, .int .i64 0)])
   (fun i wr => wr = w1) (fun i => 0) () ⟨rfl, rfl, rfl, rfl, trivial⟩ rfl ?_
  rintro ⟨⟩ g wr rfl
  refine GW ?_
  have q2 := Kp.refl wr n_
  refine KGO ?_
  rw [hnil]
  exact ⟨_, rfl, World.ownsRow_nil _ _ _ _, h1, k1⟩
 | some r =>
  obtain ⟨rfl, rfl⟩ := hx2 r rfl
  have hle : r.length ≤ stLen s := hle
  have hb47 : n ≤ 8796093022208 := by omega
  have hd : numsR s = (match numsG n (some r) with | (_, none) => ([], none) | p => p) := by rw [hd]; dsimp only; rw [if_neg hbig]
  refine KGO ?_
  refine Loop.intro (ι := Nat × List Nat × St × Option Addr × Nat) (fun i => [(0, .pointer (some ⟨b, 0, none⟩)), (1, .func (.func 42) #[.pointer (some ⟨b, 0, none⟩)] #[]), (5, .int .i64 (n : Nat)), (6, .slice i.2.2.2.1 i.2.1.length i.2.2.2.2), (7, .int .i64 (i.1 : Nat))])
   (fun i wr => Kp w wr (one_ b) ∧ VarK wr b 130 (rdC i.2.2.1) ∧ OwnI wr w.heap.size (.slice i.2.2.2.1 i.2.1.length i.2.2.2.2) (iL i.2.1) ∧ i.1 ≤ n ∧ i.2.1.length = i.1 ∧ stLen i.2.2.1 ≤ stLen s ∧
    ((∃ q, i.2.2.1 = some q ∧ numsG n (some r) = (i.2.1 ++ (numsG (n - i.1) (some q)).1, (numsG (n - i.1) (some q)).2)) ∨ (i.2.2.1 = none ∧ (numsG n (some r)).2 = none))) (fun i => n - i.1) (0, [], some r, none, 0) ⟨rfl, rfl, rfl, rfl, rfl, trivial⟩
   ⟨k1, h1, World.ownsRow_nil _ _ _ _, by omega, rfl, hle, .inl ⟨r, rfl, by simp⟩⟩ ?_
  rintro ⟨i, outs, t, a, c⟩ g wr ⟨hK, hv, ho, hi, hol, hst, hor⟩
  dsimp only at hv ho hi hol hst hor ⊢
  refine GW ?_
  have q2 := Kp.refl wr n_
  rcases hor with ⟨q, rfl, hg⟩ | ⟨rfl, hg⟩
  ·have at_ : At wr b 0 [.string (str q), .bool false] := hv.at
   by_cases hlt2 : i < n
   ·refine KGO ?_
    refine CallS.of (Tryz.call42 _ _) (zfc (some q) hv (fun u e => by injection e with e; subst e; have hst : q.length ≤ stLen s := hst; omega)) ?_
    rintro e w3 ⟨rfl, h3, k3⟩
    refine RT ?_
    have o3 : OwnI w3 w.heap.size (.slice a outs.length c) (iL outs) := zad ho k3 (fun g hg e => by
     rcases ho.2 with ⟨hn, _⟩ | ⟨g', cap, cur, he, hB, _⟩
     ·rw [hn] at hg; cases hg
     ·rw [he] at hg; have e1 : g' = g := by simpa [Value.ownBlock] using hg
      have e : g = b := e
      omega)
    have K3 := hK.trans' k3
    have hqlt := zfG (some q)
    have hstq := zbl (some q)
    have hgq : numsG (n - i) (some q) = match numR (some q) with | (_, none) => ([], none) | (m, some r) => (match numsG (n - (i + 1)) (some r) with | (l, s) => (m :: l, s)) := by
     obtain ⟨k, hk⟩ : ∃ k, n - i = k + 1 := ⟨n - i - 1, by omega⟩
     rw [hk, show n - (i + 1) = k by omega]; rfl
    obtain ⟨m, t2, hm⟩ : ∃ m t2, numR (some q) = (m, t2) := ⟨_, _, rfl⟩
    rw [hm] at hgq hqlt h3 hstq
    rw [hm]
    dsimp only at hgq hqlt h3 hstq ⊢
    refine RunV.of (bs1I _ _) ?_
    have k4 : Kp w3 (w3.alloc (.cells (List.toArray (inC (m : Int))) 3)) n_ := (Kp.refl _ _).alloc _
    have h4 := zaq w3 3 (inC (m : Int))
    have o4 := zab o3 k4
    have v4 := h3.keep0 k4
    generalize w3.alloc (.cells (List.toArray (inC (m : Int))) 3) = w4 at *
    generalize w3.heap.size = g4 at *
    refine KGO ?_
    have K4 := K3.trans0 k4
    have hol2 := zcH outs
    rw [← hol2]
    rw [← hol2] at o4
    refine tyI.app1 (m : Int) o4 K4.size h4 (by omega) (by omega) fun v5 w5 o5 k5 => ?_
    have hap : iL outs ++ [(m : Int)] = iL (outs ++ [m]) := by simp [iL]
    rw [hap] at o5
    obtain ⟨a5, c5, rfl⟩ := zac o5
    have K5 := zaZ o4 k5 K4 (Nat.le_refl _)
    have v5 : VarK w5 b 130 (rdC t2) := v4.keep k5 (fun e => by
     rcases o4.2 with ⟨hn, _⟩ | ⟨g', cap, cur, he, hB, _⟩
     ·have e : Value.ownBlock (.slice a (iL outs).length c) = some b := e
      rw [hn] at e; cases e
     ·have e : Value.ownBlock (.slice a (iL outs).length c) = some b := e
      rw [he] at e; have e1 : g' = b := by simpa [Value.ownBlock] using e
      omega)
    refine KGO ?_
    refine ⟨(i + 1, outs ++ [m], t2, a5, c5), ⟨rfl, rfl, rfl, congrArg (fun n => Value.slice a5 n c5) (zcH _), v_int (by simp), trivial⟩, ⟨K5, v5, ?_, by omega, by simp [hol], ?_, ?_⟩, by dsimp only; omega⟩
    ·rw [zcH] at o5; exact o5
    ·exact Nat.le_trans hstq hst
    ·dsimp only
     cases t2 with
     | none => exact .inr ⟨rfl, by rw [hg, hgq]⟩
     | some q2 => exact .inl ⟨q2, rfl, by rw [hg, hgq]; simp⟩
   ·refine KGO ?_
    have hin : i = n := by omega
    subst hin
    rw [Nat.sub_self] at hg
    have hg : numsG i (some r) = (outs, some q) := by rw [hg]; simp [numsG]
    rw [hd, hg]
    exact ⟨_, rfl, ho, hv, hK⟩
  ·have at_ : At wr b 0 [.string ⟨#[]⟩, .bool true] := hv.at
   have hnil : numsR s = ([], none) := by
    rw [hd]
    cases hq : numsG n (some r) with
    | mk l st => rw [hq] at hg; dsimp only at hg; subst hg; rfl
   by_cases hlt2 : i < n
   ·refine KGO ?_
    rw [hnil]
    exact ⟨_, rfl, World.ownsRow_nil _ _ _ _, hv, hK⟩
   ·refine KGO ?_
    rw [hnil]
    exact ⟨_, rfl, World.ownsRow_nil _ _ _ _, hv, hK⟩
theorem znk (s : St) (h : VarK w b 130 (rdC s)) (hs : stLen s ≤ 140737488355328 / 16) :
  Calls Tryz.prog 44 #[.pointer (some ⟨b, 0, none⟩)] w fun e w' =>
   ∃ v, e = .returned v ∧ OwnI w' w.heap.size v (iL (numsR s).1) ∧ VarK w' b 130 (rdC (numsR s).2) ∧ Kp w w' (one_ b) := by
 refine zaa (args := [.pointer (some ⟨b, 0, none⟩)]) Tryz.func44 rfl NL ?_; refine GW ?_
 refine CallS.of (Tryz.call74 _ _) (zpV s h hs) ?_
 rintro e w1 ⟨v, rfl, h1, h2, h3⟩
 obtain ⟨a, c, rfl⟩ := zac h1
 refine RT ?_
 exact ⟨_, rfl, h1, h2, h3⟩
end
section
end
section
end
section
end
section
variable {w : World}
theorem zop (a : Option Addr) (l c : Nat) : Calls Tryz.prog 43 #[.slice a l c, .int .i64 3] w fun e w' =>
  e = .returned (.func (.func 73) #[] #[.pointer (some ⟨w.heap.size, 0, none⟩), .pointer (some ⟨w.heap.size + 1, 0, none⟩)]) ∧
   VarK w' w.heap.size 37 [.slice a l c] ∧ VarK w' (w.heap.size + 1) 3 [.int .i64 3] ∧ Kp w w' n_ ∧ w'.heap.size = w.heap.size + 2 := by
 refine zaa (args := [.slice a l c, .int .i64 3]) Tryz.func43 rfl NL ?_; refine GW ?_
 have v1 := VarK.new w 37 [.slice a l c]
 have k1 : Kp w (w.alloc (.cells (List.toArray [.slice a l c]) 37)) n_ := (Kp.refl _ _).alloc _
 have z1 : (w.alloc (.cells (List.toArray [.slice a l c]) 37)).heap.size = w.heap.size + 1 := by simp
 generalize w.alloc (.cells (List.toArray [.slice a l c]) 37) = w1 at *
 have v2 := VarK.new w1 3 [.int .i64 3]
 have k2 : Kp w1 (w1.alloc (.cells (List.toArray [.int .i64 3]) 3)) n_ := (Kp.refl _ _).alloc _
 have z2 : (w1.alloc (.cells (List.toArray [.int .i64 3]) 3)).heap.size = w1.heap.size + 1 := by simp
 have v12 := v1.keep0 k2
 generalize w1.alloc (.cells (List.toArray [.int .i64 3]) 3) = w2 at *
 rw [z1] at v2 z2 ⊢
 have a2 := v2.at
 have q2 := Kp.refl w2 n_
 refine KGO ?_
 exact ⟨rfl, v12, v2, k1.trans0 k2, z2⟩
theorem slice3I (g o n c l h : Nat) (hl : l < h) (hh : h ≤ c) (w : World) : (Instr.sliceAt 37 (.slice (some ⟨g, o, none⟩) n c) (some (.int .i64 (l : Nat))) (some (.int .i64 (h : Nat))) (some (.int .i64 (h : Nat)))).run Tryz.prog w = .ok (.slice (some ⟨g, o + l, none⟩) (h - l) (h - l)) w := by
 obtain ⟨i, hi, hi2⟩ := Option.map_eq_some_iff.1 infoI
 simp only [Prod.mk.injEq] at hi2
 have hne : ¬ h = l := by omega
 simp only [Instr.sliceAt, Instr.slice, Instr.sliceBounds, Sem.run_bind, zaA Tryz.underlying37, Result.andThen_ok, zbi hi]
 rw [run_sliceBound (P := Tryz.prog) (w := w) .i64 (h : Int) c _ (by omega) (by omega)]
 simp only [Result.andThen_ok, Int.toNat_natCast]
 rw [run_sliceBound (P := Tryz.prog) (w := w) .i64 (h : Int) h _ (by omega) (by omega)]
 simp only [Result.andThen_ok, Int.toNat_natCast]
 rw [run_sliceBound (P := Tryz.prog) (w := w) .i64 (l : Int) h _ (by omega) (by omega)]
 simp only [Result.andThen_ok, Int.toNat_natCast, Sem.run_pure, hi2.2.1, if_neg hne, Option.map_some, add_none, Nat.mul_one]
def chE (g o n : Nat) (j : Nat) : List Value := [.slice (some ⟨g, o + 3 * j, none⟩) (min 3 (n - 3 * j)) (min 3 (n - 3 * j))]
theorem zpl {n c b1 b2 L : Nat} {a : Option Addr} {g o : Nat} (ha : 0 < n → a = some ⟨g, o, none⟩) (hnc : n ≤ c) (hn : n ≤ 1000000) (J Jx : List Nat → World → Prop)
  (hJ : ∀ pre W, J pre W → VarK W b1 37 [.slice a n c] ∧ VarK W b2 3 [.int .i64 3]) (hab : ∀ pre W W', J pre W → Kp W W' n_ → J pre W')
  (hY : ∀ pre W, J pre W → pre = List.range pre.length → 3 * pre.length < n → YieldS Tryz.prog L (chE g o n pre.length) W fun v W' => (v = .bool true ∧ J (pre ++ [pre.length]) W') ∨ (v = .bool false ∧ Jx (pre ++ [pre.length]) W'))
  (h0 : J [] w) :
  Calls Tryz.prog 73 #[.func (.yield L) #[] #[], .pointer (some ⟨b1, 0, none⟩), .pointer (some ⟨b2, 0, none⟩)] w fun e W' => (∃ v, e = .returned v) ∧ ((∃ xs, xs = List.range ((n + 2) / 3) ∧ J xs W') ∨ ∃ pre, Jx pre W') := by
 refine zaa (args := [.func (.yield L) #[] #[], .pointer (some ⟨b1, 0, none⟩), .pointer (some ⟨b2, 0, none⟩)]) Tryz.func73 rfl NL ?_; refine GW ?_
 refine Loop.intro (ι := Nat) (fun j => [(0, .func (.yield L) #[] #[]), (1, .pointer (some ⟨b1, 0, none⟩)), (2, .pointer (some ⟨b2, 0, none⟩)), (4, .int .i64 ((3 * j : Nat) : Int))])
  (fun j wr => J (List.range j) wr ∧ 3 * j ≤ n + 2) (fun j => n + 3 - 3 * j) 0 ⟨rfl, rfl, rfl, rfl, trivial⟩ ⟨h0, by omega⟩ ?_
 rintro j gg wr ⟨hJr, hj⟩
 obtain ⟨v1, v2⟩ := hJ _ _ hJr
 have a1 := v1.at
 have a2 := v2.at
 have q1 := Kp.refl wr n_
 refine GW ?_
 by_cases hlt : 3 * j < n
 ·obtain rfl := ha (by omega)
  refine KGO ?_
  have hmin : min (3 : Int) ((n - 3 * j : Nat) : Int) = ((min 3 (n - 3 * j) : Nat) : Int) := by omega
  obtain ⟨m, hm⟩ : ∃ m, min 3 (n - 3 * j) = m := ⟨_, rfl⟩
  have hm1 : 1 ≤ m ∧ m ≤ 3 ∧ 3 * j + m ≤ n := by omega
  have hsum : ((3 * j : Nat) : Int) + min (3 : Int) ((n - 3 * j : Nat) : Int) = ((3 * j + m : Nat) : Int) := by omega
  rw [hsum]
  refine RunV.of (slice3I g o n c (3 * j) (3 * j + m) (by omega) (by omega) wr.drew) ?_
  refine KGO ?_
  have hy := hY (List.range j) wr.drew (hab _ _ _ hJr (Kp.refl _ _).drew) (by simp) (by simpa using hlt)
  rw [List.length_range] at hy
  unfold chE at hy
  rw [hm] at hy
  rw [show 3 * j + m - 3 * j = m by omega]
  refine YieldS.of hy ?_
  rintro v w2 (⟨rfl, hJ2⟩ | ⟨rfl, hJ2⟩)
  ·refine GW ?_
   obtain ⟨v21, v22⟩ := hJ _ _ hJ2
   have a22 := v22.at
   have q2 := Kp.refl w2 n_
   refine KGO ?_
   refine ⟨j + 1, ⟨rfl, rfl, rfl, v_int (by omega), trivial⟩, ⟨by rw [List.range_succ]; exact hJ2, by omega⟩, by dsimp only; omega⟩
  ·refine GW ?_
   refine KGO ?_
   exact ⟨⟨_, rfl⟩, .inr ⟨_, hJ2⟩⟩
 ·refine KGO ?_
  refine ⟨⟨_, rfl⟩, .inl ⟨_, rfl, ?_⟩⟩
  rw [show (n + 2) / 3 = j by omega]; exact hJr
end
end Go.Proofs.YtcplagfblmemhaaGreatDoor
