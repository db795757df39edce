/- Helper text of this claim: Aa3, Aa4, Aa5, Aa6: lemmas and contracts that the proved statement rests on; no conditions of its own. -/
import Derived.Test.YtohhkegmbgancaaGreatDoorGBw12
-- alias Tryz
namespace Go.Proofs.YtohhkegmbgancaaGreatDoor
open Go.Shelf Go.RowKit Go.Pw Go.Vc Go.Cs Go.Lib
set_option linter.unusedVariables false
set_option maxRecDepth 100000
/-- The headers of an account's slices. -/
structure Hd where
  B : Sl
  M : Sl
  S : Sl
  N : Sl
def accC (h : Hd) (A : Acc) : List Value := [.slice h.B.a h.B.n h.B.c, .slice h.M.a h.M.n h.M.c, .slice h.S.a h.S.n h.S.c, .string (str A.active), .slice h.N.a h.N.n h.N.c, .int .i64 A.nm, .int .i64 A.nb, .int .i64 A.st]
def RowM (w : World) (v : Value) (l : List Ml) : Prop := ∃ lx : List Mr, lx.map (·.m) = l ∧ RowMr w v lx ∧ ∀ x ∈ lx, MailOk w x
theorem RowM.keep {w w' : World} {v : Value} {l : List Ml} (h : RowM w v l) (k : Keeps w w' none_) : RowM w' v l := by
  obtain ⟨lx, h1, h2, h3⟩ := h
  exact ⟨lx, h1, h2.keep k, fun x hx => (h3 x hx).keep k⟩
/-- An account in memory, to be read. -/
structure AccR (w : World) (h : Hd) (A : Acc) : Prop where
  b : RowB w h.B.v A.boxes
  m : RowM w h.M.v A.mails
  s : RowS w h.S.v A.scripts
  n : RowN w h.N.v A.seen
theorem AccR.keep {w w' : World} {h : Hd} {A : Acc} (r : AccR w h A) (k : Keeps w w' none_) : AccR w' h A := ⟨r.b.keep k, r.m.keep k, r.s.keep k, r.n.keep k⟩
/-- Of a size that the walks bear. -/
structure Fit (A : Acc) : Prop where
  bl : A.boxes.length ≤ 1000
  bs : SmallB A.boxes
  ml : A.mails.length ≤ 100000
  mb : ∀ m ∈ A.mails, m.boxes.length ≤ 100000 ∧ m.flags.length ≤ 200
  mf : ∀ m ∈ A.mails, ∀ f ∈ m.flags, f.length ≤ 1000000
  sl : A.scripts.length ≤ 1000
  ss : ∀ s ∈ A.scripts, s.name.length ≤ 1000000 ∧ s.text.length ≤ 1000000
  nl : A.seen.length ≤ 100000
  st : 0 ≤ A.st ∧ A.st ≤ 4611686018427387904
  nm : 0 ≤ A.nm ∧ A.nm ≤ 4611686018427387904
  nb : 0 ≤ A.nb ∧ A.nb ≤ 4611686018427387904
theorem idxP_map {α β : Type} (f : α → β) (p : β → Bool) (l : List α) : idxP (fun x => p (f x)) l = idxP p (l.map f) := by
  unfold idxP
  rw [List.findIdx?_map]
  rfl
def findL (l : List Ml) (id : Int) : Option Ml := l.find? fun m => decide (m.id = id)
def placeL (l : List Ml) (id : Int) : Int := idxP (fun m => decide (m.id = id)) l
def inL (l : List Ml) (id : Int) : List Int := (l.filter fun m => decide (id ∈ m.boxes)).map (·.id)
theorem place_find (l : List Ml) (id : Int) : (placeL l id = -1 ∧ findL l id = none) ∨ ∃ i : Nat, ∃ h : i < l.length, placeL l id = (i : Nat) ∧ findL l id = some l[i] ∧ l[i].id = id ∧ ∀ j (hj : j < i), (l[j]'(by omega)).id ≠ id := by
  unfold placeL findL
  rcases idxP_lt (fun m : Ml => decide (m.id = id)) l with h | ⟨i, hi, h1, h2, h3⟩
  · refine .inl ⟨h, ?_⟩
    rw [List.find?_eq_none]
    intro x hx hp
    have : l.any (fun m => decide (m.id = id)) = true := List.any_eq_true.2 ⟨x, hx, hp⟩
    rw [← idxP_any, h] at this
    omega
  · refine .inr ⟨i, hi, h1, ?_, by simpa using h2, fun j hj => by simpa using h3 j hj⟩
    rw [List.find?_eq_some_iff_getElem]
    exact ⟨h2, i, hi, rfl, fun j hj => by rw [h3 j hj]; rfl⟩
section
variable {w : World}
set_option maxHeartbeats 2000000 in
theorem ac_place {h : Hd} {A : Acc} (id : Int) (ha : AccR w h A) (hl : A.mails.length ≤ 1000000) : Calls Tryz.prog 40 #[.agg (accC h A).toArray, .int .i64 id] w fun e w' => e = .returned (.int .i64 (placeL A.mails id)) ∧ Keeps w w' none_ := by
  obtain ⟨lx, hm, hr, hx⟩ := ha.m
  refine calls_of_vc (args := [.agg (accC h A).toArray, .int .i64 id]) Tryz.func40 rfl (Nat.le_of_ble_eq_true rfl) ?_; refine Sat.go hmix ?_; conv => whnf
  have a_b1 := at_fresh w 36 (accC h A)
  have v_b1 := VarK.new w 36 (accC h A)
  have k_w1 : Keeps w (w.alloc (.cells (List.toArray (accC h A)) 36)) none_ := (Keeps.refl _ _).alloc _
  have z_w1 : (w.alloc (.cells (List.toArray (accC h A)) 36)).heap.size = w.heap.size + 1 := by simp
  generalize w.alloc (.cells (List.toArray (accC h A)) 36) = w1 at *
  generalize hs_b1 : w.heap.size = b1 at *
  have r_w1 : Keeps w1 w1 none_ := Keeps.refl _ _
  have a_b2 := at_fresh w1 3 ([.int .i64 id])
  have v_b2 := VarK.new w1 3 ([.int .i64 id])
  have k_w2 : Keeps w1 (w1.alloc (.cells (List.toArray ([.int .i64 id])) 3)) none_ := (Keeps.refl _ _).alloc _
  have z_w2 : (w1.alloc (.cells (List.toArray ([.int .i64 id])) 3)).heap.size = w1.heap.size + 1 := by simp
  generalize w1.alloc (.cells (List.toArray ([.int .i64 id])) 3) = w2 at *
  generalize hs_b2 : w1.heap.size = b2 at *
  have r_w2 : Keeps w2 w2 none_ := Keeps.refl _ _
  refine KGO ?_
  conv => arg 3; simp [ev, upd]
  refine CallS.of (Tryz.call94 _ _) (ixf_Ml1 (w := w2) lx 95 (.pointer (some ⟨b2, 0, none⟩)) (fun x => decide (x.m.id = id)) (hr.keep (k_w1.trans0 k_w2)) (by have := congrArg List.length hm; rw [List.length_map] at this; omega) Tryz.call95 (fun x _ w' k => ac_place1 x id (cell_mono (a_b2 0 _ rfl) k))) ?_
  rintro e w3 ⟨rfl, k3⟩
  refine ⟨_, rfl, ?_⟩; (first | refine Then.go hmix ?_ | refine Sat.go hmix ?_ | refine ResK.go ?_ | skip); conv => whnf
  refine ⟨?_, (k_w1.trans0 k_w2).trans0 k3⟩
  rw [idxP_map (·.m) (fun m : Ml => decide (m.id = id)) lx, hm]
  rfl
end
end Go.Proofs.YtohhkegmbgancaaGreatDoor

-- alias Tryz
namespace Go.Proofs.YtohhkegmbgancaaGreatDoor
open Go.Shelf Go.RowKit Go.Pw Go.Vc Go.Cs Go.Lib
set_option linter.unusedVariables false
set_option maxRecDepth 100000
section
variable {w : World}
set_option maxHeartbeats 2000000 in
theorem ac_there1 {h : Hd} {A : Acc} (id : Int) {bp : Nat} (hc : At w bp 0 (accC h A)) (hb : RowB w h.B.v A.boxes) (hl : A.boxes.length ≤ 1000000) : Calls Tryz.prog 140 #[.int .i64 id, .pointer (some ⟨bp, 0, none⟩)] w fun e w' => e = .returned (.bool (!hasId A.boxes id)) ∧ Keeps w w' none_ := by
  refine calls_of_vc (args := [.int .i64 id, .pointer (some ⟨bp, 0, none⟩)]) Tryz.func140 rfl (Nat.le_of_ble_eq_true rfl) ?_; refine Sat.go hmix ?_; conv => whnf
  have a_b1 := at_fresh w 3 ([.int .i64 id])
  have v_b1 := VarK.new w 3 ([.int .i64 id])
  have k_w1 : Keeps w (w.alloc (.cells (List.toArray ([.int .i64 id])) 3)) none_ := (Keeps.refl _ _).alloc _
  have z_w1 : (w.alloc (.cells (List.toArray ([.int .i64 id])) 3)).heap.size = w.heap.size + 1 := by simp
  generalize w.alloc (.cells (List.toArray ([.int .i64 id])) 3) = w1 at *
  generalize hs_b1 : w.heap.size = b1 at *
  have r_w1 : Keeps w1 w1 none_ := Keeps.refl _ _
  refine KGO ?_
  conv => arg 3; simp [ev, upd]
  refine CallS.of (Tryz.call64 _ _) (cf1 (w := w1) A.boxes 141 (.pointer (some ⟨b1, 0, none⟩)) (fun b => decide (b.id = id)) (hb.keep k_w1) hl Tryz.call141 (fun b _ w' k => ac_there11 b id (cell_mono (a_b1 0 _ rfl) k))) ?_
  rintro e w2 ⟨rfl, k2⟩
  refine ⟨_, rfl, ?_⟩; (first | refine Then.go hmix ?_ | refine Sat.go hmix ?_ | refine ResK.go ?_ | skip); conv => whnf
  exact ⟨rfl, k_w1.trans0 k2⟩
theorem ac_there {h : Hd} {A : Acc} {v : Value} (l : List Int) (hb : RowB w h.B.v A.boxes) (hbl : A.boxes.length ≤ 1000000) (hv : RowI w v l) (hl : l.length ≤ 17592186044416) : Calls Tryz.prog 74 #[.agg (accC h A).toArray, v] w fun e w' => e = .returned (.bool (thereB A.boxes l)) ∧ Keeps w w' none_ := by
  have hv0 := hv
  obtain ⟨a, cap, rfl, hr⟩ := hv
  refine calls_of_vc (args := [.agg (accC h A).toArray, .slice a l.length cap]) Tryz.func74 rfl (Nat.le_of_ble_eq_true rfl) ?_; refine Sat.go hmix ?_; conv => whnf
  have a_b1 := at_fresh w 36 (accC h A)
  have v_b1 := VarK.new w 36 (accC h A)
  have k_w1 : Keeps w (w.alloc (.cells (List.toArray (accC h A)) 36)) none_ := (Keeps.refl _ _).alloc _
  have z_w1 : (w.alloc (.cells (List.toArray (accC h A)) 36)).heap.size = w.heap.size + 1 := by simp
  generalize w.alloc (.cells (List.toArray (accC h A)) 36) = w1 at *
  generalize hs_b1 : w.heap.size = b1 at *
  have r_w1 : Keeps w1 w1 none_ := Keeps.refl _ _
  refine KGO ?_
  conv => arg 3; simp [ev, upd]
  refine CallS.of (Tryz.call139 _ _) (cnf_I1 (w := w1) l 140 (.pointer (some ⟨b1, 0, none⟩)) (fun id => !hasId A.boxes id) (hv0.keep k_w1) hl Tryz.call140 (fun id _ w' k => ac_there1 (h := h) (A := A) id (at_mono a_b1 k) (hb.keep (k_w1.trans0 k)) hbl)) ?_
  rintro e w2 ⟨rfl, k2⟩
  refine ⟨_, rfl, ?_⟩; (first | refine Then.go hmix ?_ | refine Sat.go hmix ?_ | refine ResK.go ?_ | skip); conv => whnf
  refine ⟨ret_bool ?_, k_w1.trans0 k2⟩
  unfold thereB
  rw [Bool.eq_iff_iff, Bool.not_eq_true', List.any_eq_false, List.all_eq_true]
  unfold hasId
  simp
theorem build_mail0 (w : World) : (Instr.build 42 [].toArray).run Tryz.prog w = .ok (.agg (mrC (default : Mr)).toArray) w := by
  show _ = Result.ok (Value.agg zMl.toArray) w
  simp [Instr.build, Instr.fill, go_sem, Tryz.runUnderlying42]
set_option maxHeartbeats 4000000 in
theorem ac_Find {h : Hd} {A : Acc} (id : Int) (ha : AccR w h A) (hl : A.mails.length ≤ 100000) (hs : ∀ m ∈ A.mails, m.boxes.length ≤ 1000000 ∧ m.flags.length ≤ 1000000) : Calls Tryz.prog 11 #[.agg (accC h A).toArray, .int .i64 id] w fun e w' => ∃ y : Mr, e = .returned (.tuple #[.agg (mrC y).toArray, .bool (findL A.mails id).isSome]) ∧ y.m = (findL A.mails id).getD (default : Mr).m ∧ MailOk w' y ∧ Keeps w w' none_ := by
  obtain ⟨lx, hm, hr, hx⟩ := ha.m
  have hlx : lx.length = A.mails.length := by rw [← hm, List.length_map]
  refine calls_of_vc (args := [.agg (accC h A).toArray, .int .i64 id]) Tryz.func11 rfl (Nat.le_of_ble_eq_true rfl) ?_; refine Sat.go hmix ?_; conv => whnf
  have a_b1 := at_fresh w 36 (accC h A)
  have v_b1 := VarK.new w 36 (accC h A)
  have k_w1 : Keeps w (w.alloc (.cells (List.toArray (accC h A)) 36)) none_ := (Keeps.refl _ _).alloc _
  have z_w1 : (w.alloc (.cells (List.toArray (accC h A)) 36)).heap.size = w.heap.size + 1 := by simp
  generalize w.alloc (.cells (List.toArray (accC h A)) 36) = w1 at *
  generalize hs_b1 : w.heap.size = b1 at *
  have r_w1 : Keeps w1 w1 none_ := Keeps.refl _ _
  have a_b2 := at_fresh w1 42 (zMl)
  have v_b2 := VarK.new w1 42 (zMl)
  have k_w2 : Keeps w1 (w1.alloc (.cells (List.toArray (zMl)) 42)) none_ := (Keeps.refl _ _).alloc _
  have z_w2 : (w1.alloc (.cells (List.toArray (zMl)) 42)).heap.size = w1.heap.size + 1 := by simp
  generalize w1.alloc (.cells (List.toArray (zMl)) 42) = w2 at *
  generalize hs_b2 : w1.heap.size = b2 at *
  have r_w2 : Keeps w2 w2 none_ := Keeps.refl _ _
  refine KGO ?_
  refine CallS.of (Tryz.call40 _ _) (ac_place (w := w2) (h := h) (A := A) id (ha.keep (k_w1.trans0 k_w2)) (by omega)) ?_
  rintro e w3 ⟨rfl, k3⟩
  have K3 : Keeps w w3 none_ := (k_w1.trans0 k_w2).trans0 k3
  have vr := v_b2.keep0 k3
  refine ⟨_, rfl, ?_⟩; (first | refine Then.go hmix ?_ | refine Sat.go hmix ?_ | refine ResK.go ?_ | skip); conv => whnf
  rcases place_find A.mails id with ⟨hp, hf⟩ | ⟨i, hi, hp, hf, _, _⟩
  · rw [hp, hf]
    refine KGO ?_
    refine RunV.of (build_mail0 _) ?_
    refine KGO ?_
    refine Store.varK (mrC default) vr (by rfl) rfl (flat_of (by rfl)) fun w4 vr k4 => ?_
    have hat := vr.at
    refine KGO ?_
    (first | refine Then.go hmix ?_ | refine Sat.go hmix ?_ | refine ResK.go ?_ | skip); conv => whnf
    refine KGO ?_
    (first | refine Then.go hmix ?_ | refine Sat.go hmix ?_ | refine ResK.go ?_ | skip); conv => whnf
    exact ⟨default, rfl, rfl, ⟨⟨none, 0, rfl, fun h => by cases h⟩, ⟨none, 0, rfl, fun h => by cases h⟩⟩, keeps_new K3 k4 (by have := k_w1.size; omega)⟩
  · rw [hp, hf]
    have hi2 : i < lx.length := by omega
    have hxm : lx[i].m = A.mails[i] := by simp [← hm]
    obtain ⟨a, cap, he, hrr⟩ := hr
    obtain ⟨gb, o, rfl, hgb, hat⟩ := hrr (by omega)
    have hrn : h.M.n = lx.length := by injection he
    have hra : h.M.a = some ⟨gb, o, none⟩ := by injection he
    have aa := at_mono a_b1 (k_w2.trans0 k3)
    have hmo := (hx lx[i] (List.getElem_mem hi2)).keep K3
    have hsi := hs A.mails[i] (List.getElem_mem hi)
    unfold accC at aa
    rw [hrn, hra] at aa
    refine KGO ?_
    generalize lx[i] = x at *
    refine CallS.of (Tryz.call41 _ _) (ac_copied (w := w3) x hmo (by rw [hxm]; exact hsi.1) (by rw [hxm]; exact hsi.2)) ?_
    rintro e w4 ⟨y, rfl, hy, oy1, oy2, _, k4⟩
    have vr := vr.keep0 k4
    refine ⟨_, rfl, ?_⟩; (first | refine Then.go hmix ?_ | refine Sat.go hmix ?_ | refine ResK.go ?_ | skip); conv => whnf
    refine KGO ?_
    refine Store.varK (mrC y) vr (by rfl) rfl (flat_of (by rfl)) fun w5 vr k5 => ?_
    have hat := vr.at
    refine KGO ?_
    (first | refine Then.go hmix ?_ | refine Sat.go hmix ?_ | refine ResK.go ?_ | skip); conv => whnf
    refine KGO ?_
    (first | refine Then.go hmix ?_ | refine Sat.go hmix ?_ | refine ResK.go ?_ | skip); conv => whnf
    have hb2 : b2 < w3.heap.size := by have := k3.size; omega
    have hyb : y.m.boxes = x.m.boxes := by rw [hy]
    have hyf : y.m.flags = x.m.flags := by rw [hy]
    refine ⟨y, rfl, hy.trans hxm, ⟨?_, ?_⟩, keeps_new (K3.trans0 k4) k5 (by have := k_w1.size; omega)⟩
    · rw [hyb]; exact own_rowO (own_keep1 oy1 k5 hb2)
    · rw [hyf]; exact own_rowO (own_keep1 oy2 k5 hb2)
end
end Go.Proofs.YtohhkegmbgancaaGreatDoor

-- alias Tryz
namespace Go.Proofs.YtohhkegmbgancaaGreatDoor
open Go.Shelf Go.RowKit Go.Pw Go.Vc Go.Cs Go.Lib
set_option linter.unusedVariables false
set_option maxRecDepth 100000
section
variable {w : World}
theorem inL_snoc (l : List Ml) (m : Ml) (id : Int) : inL (l ++ [m]) id = if id ∈ m.boxes then inL l id ++ [m.id] else inL l id := by
  unfold inL
  rw [List.filter_append, List.map_append]
  by_cases h : id ∈ m.boxes
  · rw [if_pos h, List.filter_cons_of_pos (by simpa using h)]; rfl
  · rw [if_neg h, List.filter_cons_of_neg (by simpa using h)]; simp
/-- 'append(out, z)'. -/
theorem app_int {K : Value → World → Prop} {B : Nat} {v : Value} {l : List Int} {cs : Array Bool} (h : OwnI w B v l) (hB : B ≤ w.heap.size) (z : Int) (hl : l.length ≤ 1000000000)
    (k : ∀ v' w', OwnI w' B v' (l ++ [z]) → Keeps w w' (own_ v) → K v' w') :
    RunN Tryz.prog (builtin .append #[25, 25] 25 cs [v, .slice (some ⟨w.heap.size, 0, none⟩) 1 1].toArray) (w.alloc (.cells #[.int .i64 z] 3)) K := by
  refine RunN.app Tryz.underlying25 infoI rfl (by decide) (own_keep0 h ((Keeps.refl _ _).alloc _)) (Nat.le_trans hB ((Keeps.refl w none_).alloc _).size) ⟨w.heap.size, 0, none⟩ 1 1 [.int .i64 z] rfl (new_cells _ _ _) (by simp [Value.oneCell']) (by omega) (by omega) fun v' w' h2 h3 => k v' w' ?_ ?_
  · unfold OwnI
    rw [List.length_append, List.flatMap_append]
    simpa using h2
  · have k1 : Keeps w (w.alloc (.cells #[.int .i64 z] 3)) none_ := (Keeps.refl _ _).alloc _
    exact ⟨h3.os.trans k1.os, h3.tape.trans k1.tape, h3.output.trans k1.output, Nat.le_trans k1.size h3.size, fun i hi hn => (h3.block i (Nat.lt_of_lt_of_le hi k1.size) (fun e => hn e.symm)).trans (k1.block i hi id)⟩
set_option maxHeartbeats 4000000 in
theorem ac_In {h : Hd} {A : Acc} (id : Int) (ha : RowM w h.M.v A.mails) (hl : A.mails.length ≤ 1000000) (hs : ∀ m ∈ A.mails, m.boxes.length ≤ 1000000) : Calls Tryz.prog 17 #[.agg (accC h A).toArray, .int .i64 id] w fun e w' => ∃ v, e = .returned v ∧ OwnI w' w.heap.size v (inL A.mails id) ∧ Keeps w w' none_ := by
  obtain ⟨lx, hm, hr, hx⟩ := ha
  have hlx : lx.length = A.mails.length := by rw [← hm, List.length_map]
  refine calls_of_vc (args := [.agg (accC h A).toArray, .int .i64 id]) Tryz.func17 rfl (Nat.le_of_ble_eq_true rfl) ?_; refine Sat.go hmix ?_; conv => whnf
  have a_b1 := at_fresh w 36 (accC h A)
  have v_b1 := VarK.new w 36 (accC h A)
  have k_w1 : Keeps w (w.alloc (.cells (List.toArray (accC h A)) 36)) none_ := (Keeps.refl _ _).alloc _
  have z_w1 : (w.alloc (.cells (List.toArray (accC h A)) 36)).heap.size = w.heap.size + 1 := by simp
  generalize w.alloc (.cells (List.toArray (accC h A)) 36) = w1 at *
  generalize hs_b1 : w.heap.size = b1 at *
  have r_w1 : Keeps w1 w1 none_ := Keeps.refl _ _
  have hn := RowO.len hr
  obtain ⟨a, cap, he, hrr⟩ := hr
  have aa := a_b1
  unfold accC at aa
  rw [hn] at aa
  refine KGO ?_
  refine Loop.intro (ι := Nat × Value) (fun p => [(1, .int .i64 id), (5, p.2), (9, .slice h.M.a lx.length h.M.c), (10, .int .i64 (lx.length : Nat)), (11, .int .i64 (p.1 : Nat))])
    (fun p wr => Keeps w wr none_ ∧ p.1 ≤ lx.length ∧ OwnI wr w.heap.size p.2 (inL (A.mails.take p.1) id)) (fun p => lx.length - p.1) (0, .slice none 0 0) ⟨rfl, rfl, rfl, rfl, rfl, trivial⟩ ⟨k_w1, Nat.zero_le _, World.ownsRow_nil _ _ _ _⟩ ?_
  rintro ⟨i, v⟩ gg wr ⟨hK, hi, ho⟩
  dsimp only at hi ho ⊢
  obtain ⟨va, vc, rfl⟩ := own_shape ho
  (first | refine Then.go hmix ?_ | refine Sat.go hmix ?_ | refine ResK.go ?_ | skip); conv => whnf
  by_cases hlt : i < lx.length
  · have hlt2 : i < A.mails.length := by omega
    obtain ⟨gb, o, hax, hgb, hat⟩ := hrr (by omega)
    have hra : h.M.a = some ⟨gb, o, none⟩ := by injection he with he; rw [he, hax]
    rw [hra]
    have hxm : lx[i].m = A.mails[i] := by simp [← hm]
    have hmo := (hx lx[i] (List.getElem_mem hlt)).keep hK
    have hsi := hs A.mails[i] (List.getElem_mem hlt2)
    have htk := List.take_succ_eq_append_getElem hlt2
    have hsn := inL_snoc (A.mails.take i) A.mails[i] id
    rw [← htk] at hsn
    refine KGO ?_
    generalize lx[i] = x at *
    refine Store.fresh (vs := mrC x) (by rfl) rfl (flat_of (by rfl)) ?_
    have a_b7 := at_fresh wr 42 (mrC x)
    have k_w4 : Keeps wr (wr.alloc (.cells (List.toArray (mrC x)) 42)) none_ := (Keeps.refl _ _).alloc _
    have z_w4 : (wr.alloc (.cells (List.toArray (mrC x)) 42)).heap.size = wr.heap.size + 1 := by simp
    generalize wr.alloc (.cells (List.toArray (mrC x)) 42) = w4 at *
    generalize hs_b7 : wr.heap.size = b7 at *
    have K4 := hK.trans0 k_w4
    have ho4 := own_keep0 ho k_w4
    refine KGO ?_
    refine CallS.of (Tryz.call45 _ _) (cn_I (w := w4) x.m.boxes id (hmo.b.keep k_w4) (by rw [hxm]; omega)) ?_
    rintro e w5 ⟨rfl, k5⟩
    have K5 := K4.trans0 k5
    have ho5 := own_keep0 ho4 k5
    have a7 := at_mono a_b7 k5
    refine ⟨_, rfl, ?_⟩; (first | refine Then.go hmix ?_ | refine Sat.go hmix ?_ | refine ResK.go ?_ | skip); conv => whnf
    rw [← hxm] at hsn
    by_cases hin : id ∈ x.m.boxes
    · rw [decide_eq_true hin]
      rw [if_pos hin] at hsn
      refine KGO ?_
      refine RunV.of (build_i1 _ _) ?_
      refine KGO ?_
      refine app_int ho5 K5.size x.m.id (by
        have : (inL (A.mails.take i) id).length ≤ i := by
          unfold inL
          rw [List.length_map]
          refine Nat.le_trans (List.length_filter_le _ _) ?_
          rw [List.length_take]; omega
        omega) fun v' w' o' k' => ?_
      obtain ⟨va', vc', rfl⟩ := own_shape o'
      refine KGO ?_
      exact ⟨(i + 1, _), ⟨rfl, rfl, rfl, rfl, v_int (by simp), trivial⟩, ⟨own_le ho5 k' w K5 (Nat.le_refl _), by dsimp only; omega, by dsimp only; rw [hsn]; exact o'⟩, by dsimp only; omega⟩
    · rw [decide_eq_false hin]
      rw [if_neg hin] at hsn
      refine KGO ?_
      exact ⟨(i + 1, _), ⟨rfl, rfl, rfl, rfl, v_int (by simp), trivial⟩, ⟨K5, by dsimp only; omega, by dsimp only; rw [hsn]; exact ho5⟩, by dsimp only; omega⟩
  · have ht : A.mails.take i = A.mails := List.take_of_length_le (by omega)
    rw [ht] at ho ⊢
    refine KGO ?_
    exact ⟨_, rfl, hs_b1 ▸ ho, hK⟩
end
end Go.Proofs.YtohhkegmbgancaaGreatDoor

-- alias Tryz
namespace Go.Proofs.YtohhkegmbgancaaGreatDoor
open Go.Shelf Go.RowKit Go.Pw Go.Vc Go.Cs Go.Lib
set_option linter.unusedVariables false
set_option maxRecDepth 100000
/-- The blocks of a message's own rows. -/
def Mr.bs (x : Mr) : List Nat := x.b.v.ownBlock.toList ++ x.f.v.ownBlock.toList
def Hd.bs (h : Hd) : List Nat := h.B.v.ownBlock.toList ++ h.S.v.ownBlock.toList ++ h.N.v.ownBlock.toList ++ h.M.v.ownBlock.toList
/-- An account in memory, its rows its own, each in a block of its own. -/
structure AccO (w : World) (B : Nat) (h : Hd) (lx : List Mr) (A : Acc) : Prop where
  b : OwnB w B h.B.v A.boxes
  s : OwnSrc w B h.S.v A.scripts
  n : OwnSn w B h.N.v A.seen
  m : OwnMl w B h.M.v lx
  ml : lx.map (·.m) = A.mails
  mb : ∀ x ∈ lx, OwnI w B x.b.v x.m.boxes ∧ OwnT w B x.f.v x.m.flags
  nd : (h.bs ++ lx.flatMap Mr.bs).Nodup
theorem nd_add {l : List Nat} {o : Option Nat} {s s' : Nat} (h : l.Nodup ∧ ∀ k ∈ l, k < s) (ho : ∀ k, o = some k → s ≤ k ∧ k < s') (hs : s ≤ s') : (l ++ o.toList).Nodup ∧ ∀ k ∈ l ++ o.toList, k < s' := by
  cases o with
  | none => simpa using ⟨h.1, fun k hk => Nat.lt_of_lt_of_le (h.2 k hk) hs⟩
  | some b =>
    have hb := ho b rfl
    refine ⟨?_, fun k hk => ?_⟩
    · rw [Option.toList_some, List.nodup_append]
      refine ⟨h.1, by simp, fun x hx y hy => ?_⟩
      have := h.2 x hx
      rw [List.mem_singleton.1 hy]
      omega
    · rcases List.mem_append.1 hk with hk | hk
      · have := h.2 k hk; omega
      · have : k = b := by simpa using hk
        omega
theorem nd_app {l m : List Nat} {s s' : Nat} (h : l.Nodup ∧ ∀ k ∈ l, k < s) (hm : m.Nodup ∧ ∀ k ∈ m, s ≤ k ∧ k < s') (hs : s ≤ s') : (l ++ m).Nodup ∧ ∀ k ∈ l ++ m, k < s' := by
  refine ⟨?_, fun k hk => ?_⟩
  · rw [List.nodup_append]
    exact ⟨h.1, hm.1, fun x hx y hy => by have := h.2 x hx; have := (hm.2 y hy).1; omega⟩
  · rcases List.mem_append.1 hk with hk | hk
    · have := h.2 k hk; omega
    · exact (hm.2 k hk).2
theorem bs_nd {y : Mr} {P : Nat → Prop} (ap : Apart y.b.v y.f.v) (hb : ∀ k, y.b.v.ownBlock = some k → P k) (hf : ∀ k, y.f.v.ownBlock = some k → P k) : y.bs.Nodup ∧ ∀ k ∈ y.bs, P k := by
  unfold Mr.bs
  have one : ∀ o : Option Nat, o.toList.Nodup := fun o => by cases o <;> simp
  have mem : ∀ (o : Option Nat) (k : Nat), k ∈ o.toList ↔ o = some k := fun o k => by cases o <;> simp [eq_comm]
  refine ⟨?_, fun k hk => ?_⟩
  · rw [List.nodup_append]
    refine ⟨one _, one _, fun a ha b hb2 e => ?_⟩
    subst e
    exact ap a ((mem _ _).1 ha) ((mem _ _).1 hb2)
  · rcases List.mem_append.1 hk with hk | hk
    · exact hb k ((mem _ _).1 hk)
    · exact hf k ((mem _ _).1 hk)
theorem own_blk {w w' : World} {B s n : Nat} {e : TypeId} {v : Value} {xs : List Value} (h : w.ownsRow B e s v n xs) (k : Keeps w w' none_) : ∀ g, v.ownBlock = some g → B ≤ g ∧ g < w'.heap.size := fun g hg => by
  have := h.lt g hg
  have := k.size
  omega
theorem AccO.read {w : World} {B : Nat} {h : Hd} {lx : List Mr} {A : Acc} (o : AccO w B h lx A) : AccR w h A :=
  ⟨own_rowO o.b, ⟨lx, o.ml, own_rowO o.m, fun x hx => ⟨own_rowO (o.mb x hx).1, own_rowO (o.mb x hx).2⟩⟩, own_rowO o.s, own_rowO o.n⟩
theorem AccO.keep {w w' : World} {B : Nat} {h : Hd} {lx : List Mr} {A : Acc} (o : AccO w B h lx A) (k : Keeps w w' none_) : AccO w' B h lx A :=
  ⟨own_keep0 o.b k, own_keep0 o.s k, own_keep0 o.n k, own_keep0 o.m k, o.ml, fun x hx => ⟨own_keep0 (o.mb x hx).1 k, own_keep0 (o.mb x hx).2 k⟩, o.nd⟩
abbrev zAcc : List Value := [.slice none 0 0, .slice none 0 0, .slice none 0 0, .string ⟨#[]⟩, .slice none 0 0, .int .i64 0, .int .i64 0, .int .i64 0]
section
variable {w : World}
set_option maxHeartbeats 8000000 in
theorem ac_clone {h : Hd} {A : Acc} (ha : AccR w h A) (hf : Fit A) : Calls Tryz.prog 39 #[.agg (accC h A).toArray] w fun e w' => ∃ h' lx, e = .returned (.agg (accC h' A).toArray) ∧ AccO w' w.heap.size h' lx A ∧ Keeps w w' none_ := by
  obtain ⟨lx, hm, hr, hx⟩ := ha.m
  have hlx : lx.length = A.mails.length := by rw [← hm, List.length_map]
  have f1 := hf.bl
  have f2 := hf.ml
  have f3 := hf.sl
  have f4 := hf.nl
  have fm := hf.mb
  clear hf
  refine calls_of_vc (args := [.agg (accC h A).toArray]) Tryz.func39 rfl (Nat.le_of_ble_eq_true rfl) ?_; refine Sat.go hmix ?_; conv => whnf
  have a_b1 := at_fresh w 36 (accC h A)
  have v_b1 := VarK.new w 36 (accC h A)
  have k_w1 : Keeps w (w.alloc (.cells (List.toArray (accC h A)) 36)) none_ := (Keeps.refl _ _).alloc _
  have z_w1 : (w.alloc (.cells (List.toArray (accC h A)) 36)).heap.size = w.heap.size + 1 := by simp
  generalize w.alloc (.cells (List.toArray (accC h A)) 36) = w1 at *
  generalize hs_b1 : w.heap.size = b1 at *
  have r_w1 : Keeps w1 w1 none_ := Keeps.refl _ _
  have a_b2 := at_fresh w1 36 (zAcc)
  have v_b2 := VarK.new w1 36 (zAcc)
  have k_w2 : Keeps w1 (w1.alloc (.cells (List.toArray (zAcc)) 36)) none_ := (Keeps.refl _ _).alloc _
  have z_w2 : (w1.alloc (.cells (List.toArray (zAcc)) 36)).heap.size = w1.heap.size + 1 := by simp
  generalize w1.alloc (.cells (List.toArray (zAcc)) 36) = w2 at *
  generalize hs_b2 : w1.heap.size = b2 at *
  have r_w2 : Keeps w2 w2 none_ := Keeps.refl _ _
  have K2 := k_w1.trans0 k_w2
  have a1 := at_mono a_b1 k_w2
  refine Draw.heldTail 12 (fun u => Keeps w2 u none_) (fun _ => true) (by decide +kernel) (by decide +kernel) (Keeps.refl _ _).drew ?_
  (first | refine Then.go hmix ?_ | refine Sat.go hmix ?_ | refine ResK.go ?_ | skip); conv => whnf
  refine KGO ?_
  refine CallS.of (Tryz.call70 _ _) (cl_Box (w := w2.drew) A.boxes (ha.b.keep K2.drew) (by omega)) ?_
  rintro e w3 ⟨v3, rfl, o3, k3⟩
  obtain ⟨a3, c3, rfl⟩ := own_shape o3
  have J3 : Keeps w2 w3 none_ := (Keeps.refl w2 none_).drew.trans0 k3
  refine ⟨_, rfl, ?_⟩; (first | refine Then.go hmix ?_ | refine Sat.go hmix ?_ | refine ResK.go ?_ | skip); conv => whnf
  refine ⟨J3, ?_⟩
  refine KGO ?_
  refine CallS.of (Tryz.call91 _ _) (cl_Src (w := w3) A.scripts (ha.s.keep (K2.trans0 J3)) (by omega)) ?_
  rintro e w4 ⟨v4, rfl, o4, k4⟩
  obtain ⟨a4, c4, rfl⟩ := own_shape o4
  have J4 := J3.trans0 k4
  refine ⟨_, rfl, ?_⟩; (first | refine Then.go hmix ?_ | refine Sat.go hmix ?_ | refine ResK.go ?_ | skip); conv => whnf
  refine ⟨J4, ?_⟩
  refine KGO ?_
  refine CallS.of (Tryz.call92 _ _) (cl_Sn (w := w4) A.seen (ha.n.keep (K2.trans0 J4)) (by omega)) ?_
  rintro e w5 ⟨v5, rfl, o5, k5⟩
  obtain ⟨a5, c5, rfl⟩ := own_shape o5
  have J5 := J4.trans0 k5
  refine ⟨_, rfl, ?_⟩; (first | refine Then.go hmix ?_ | refine Sat.go hmix ?_ | refine ResK.go ?_ | skip); conv => whnf
  refine ⟨J5, ?_⟩
  refine KGO ?_
  refine CallS.of (Tryz.call93 _ _) (cl_Ml (w := w5) lx (hr.keep (K2.trans0 J5)) (by omega)) ?_
  rintro e w6 ⟨v6, rfl, o6, k6⟩
  obtain ⟨a6, c6, rfl⟩ := own_shape o6
  have J6 := J5.trans0 k6
  have vb := v_b1.keep0 (k_w2.trans0 J6)
  have vr := v_b2.keep0 J6
  refine ⟨_, rfl, ?_⟩; (first | refine Then.go hmix ?_ | refine Sat.go hmix ?_ | refine ResK.go ?_ | skip); conv => whnf
  refine ⟨J6, ?_⟩
  have zd : w2.drew.heap.size = w2.heap.size := rfl
  have z3 := k3.size
  have z4 := k4.size
  have z5 := k5.size
  have z6 := k6.size
  -- the blocks
  have n0 : ([] : List Nat).Nodup ∧ ∀ k ∈ ([] : List Nat), k < w2.drew.heap.size := by simp
  have n1 := nd_add n0 (own_blk o3 (Keeps.refl w3 none_)) z3
  have n2 := nd_add n1 (own_blk o4 (Keeps.refl w4 none_)) z4
  have n3 := nd_add n2 (own_blk o5 (Keeps.refl w5 none_)) z5
  have n4 := nd_add n3 (own_blk o6 (Keeps.refl w6 none_)) z6
  have apB := apart_of (own_keep0 o3 (k4.trans0 k5)) o6 (Nat.le_refl _)
  have apS := apart_of (own_keep0 o4 k5) o6 (Nat.le_refl _)
  have apN := apart_of o5 o6 (Nat.le_refl _)
  have o3 := own_keep0 o3 ((k4.trans0 k5).trans0 k6)
  have o4 := own_keep0 o4 (k5.trans0 k6)
  have o5 := own_keep0 o5 k6
  have hbM : ∀ g, (Value.slice a6 lx.length c6).ownBlock = some g → w5.heap.size ≤ g ∧ g < w6.heap.size := own_blk o6 (Keeps.refl w6 none_)
  have bl1 : b1 < w2.drew.heap.size := by omega
  have bl2 : b2 < w2.drew.heap.size := by omega
  refine KGO ?_
  refine Store.cellK (i := 0) vb (Nat.le_of_ble_eq_true rfl) (by rfl) ⟨rfl, by simp, by simp⟩ fun w7 vb k7 => ?_
  refine KGO ?_
  refine Store.cellK (i := 2) vb (Nat.le_of_ble_eq_true rfl) (by rfl) ⟨rfl, by simp, by simp⟩ fun w8 vb k8 => ?_
  refine KGO ?_
  refine Store.cellK (i := 4) vb (Nat.le_of_ble_eq_true rfl) (by rfl) ⟨rfl, by simp, by simp⟩ fun w9 vb k9 => ?_
  refine KGO ?_
  refine Store.cellK (i := 1) vb (Nat.le_of_ble_eq_true rfl) (by rfl) ⟨rfl, by simp, by simp⟩ fun w10 vb k10 => ?_
  have vb : VarK w10 b1 36 [.slice a3 A.boxes.length c3, .slice a6 lx.length c6, .slice a4 A.scripts.length c4, .string (str A.active), .slice a5 A.seen.length c5, .int .i64 A.nm, .int .i64 A.nb, .int .i64 A.st] := vb
  have k710 := ((k7.trans' k8).trans' k9).trans' k10
  clear k7 k8 k9 k10
  have K10 : Keeps w w10 none_ := keeps_new (K2.trans0 J6) k710 (by omega)
  have vr := vr.keep k710 (fun e => by have e : b2 = b1 := e; omega)
  have o3 := own_keep1 o3 k710 bl1
  have o4 := own_keep1 o4 k710 (by omega)
  have o5 := own_keep1 o5 k710 (by omega)
  have o6 := own_keep1 o6 k710 (by omega)
  have z10 := k710.size
  have hat := vb.at
  refine KGO ?_
  refine Loop.intro (ι := Nat × List Mr) (fun p => [(1, .pointer (some ⟨b1, 0, none⟩)), (2, .pointer (some ⟨b2, 0, none⟩)), (22, .slice a6 lx.length c6), (23, .int .i64 (lx.length : Nat)), (24, .int .i64 (p.1 : Nat))])
    (fun p wr => Keeps w wr none_ ∧ p.1 ≤ lx.length ∧ p.2.length = p.1 ∧ p.2.map (·.m) = (lx.take p.1).map (·.m) ∧ wr.ownsRow w5.heap.size 42 38 (.slice a6 lx.length c6) lx.length ((p.2 ++ lx.drop p.1).flatMap mrC) ∧
      (∀ y ∈ p.2, OwnI wr w6.heap.size y.b.v y.m.boxes ∧ OwnT wr w6.heap.size y.f.v y.m.flags) ∧
      ((([] ++ (Value.slice a3 A.boxes.length c3).ownBlock.toList ++ (Value.slice a4 A.scripts.length c4).ownBlock.toList ++ (Value.slice a5 A.seen.length c5).ownBlock.toList ++ (Value.slice a6 lx.length c6).ownBlock.toList) ++ p.2.flatMap Mr.bs).Nodup ∧
        ∀ k ∈ ([] ++ (Value.slice a3 A.boxes.length c3).ownBlock.toList ++ (Value.slice a4 A.scripts.length c4).ownBlock.toList ++ (Value.slice a5 A.seen.length c5).ownBlock.toList ++ (Value.slice a6 lx.length c6).ownBlock.toList) ++ p.2.flatMap Mr.bs, k < wr.heap.size) ∧
      VarK wr b1 36 [.slice a3 A.boxes.length c3, .slice a6 lx.length c6, .slice a4 A.scripts.length c4, .string (str A.active), .slice a5 A.seen.length c5, .int .i64 A.nm, .int .i64 A.nb, .int .i64 A.st] ∧ VarK wr b2 36 zAcc ∧
      OwnB wr w2.drew.heap.size (.slice a3 A.boxes.length c3) A.boxes ∧ OwnSrc wr w3.heap.size (.slice a4 A.scripts.length c4) A.scripts ∧ OwnSn wr w4.heap.size (.slice a5 A.seen.length c5) A.seen ∧ w6.heap.size ≤ wr.heap.size)
    (fun p => lx.length - p.1) (0, []) ⟨rfl, rfl, rfl, rfl, rfl, trivial⟩ ⟨K10, Nat.zero_le _, rfl, rfl, o6, by simp, ⟨by simpa using n4.1, fun k hk => Nat.lt_of_lt_of_le (n4.2 k (by simpa using hk)) z10⟩, vb, vr, o3, o4, o5, z10⟩ ?_
  clear vb vr o3 o4 o5 o6 hat
  generalize hNL : ([] ++ (Value.slice a3 A.boxes.length c3).ownBlock.toList ++ (Value.slice a4 A.scripts.length c4).ownBlock.toList ++ (Value.slice a5 A.seen.length c5).ownBlock.toList ++ (Value.slice a6 lx.length c6).ownBlock.toList) = NL at *
  rintro ⟨i, ys⟩ gg wr ⟨hK, hi, hyl, hym, o6, hin, hnd, vb, vr, o3, o4, o5, hwr⟩
  dsimp only at hi hyl hym o6 hin hnd ⊢
  have hat := vb.at
  (first | refine Then.go hmix ?_ | refine Sat.go hmix ?_ | refine ResK.go ?_ | skip); conv => whnf
  by_cases hlt : i < lx.length
  · obtain ⟨zs, hz⟩ : ∃ zs, zs = ys ++ lx.drop i := ⟨_, rfl⟩
    have hzl : zs.length = lx.length := by rw [hz, List.length_append, List.length_drop]; omega
    have hzi : zs[i]'(by omega) = lx[i] := by
      subst hz
      rw [List.getElem_append_right (by omega)]
      simp [hyl]
    rw [← hz] at o6
    rcases own_blockK o6 with ⟨h, h0⟩ | ⟨g, cap, cells, he6, hBg, hv, hnc, hcm, hcl, htk⟩
    · omega
    injection he6 with he6 _ hc6
    subst he6; subst hc6
    have hgl := hv.lt
    have hrow := at_of_own o6
    have kr : Keeps wr wr none_ := Keeps.refl _ _
    have hmo := (hx lx[i] (List.getElem_mem hlt)).keep hK
    have hsi := fm lx[i].m (by rw [← hm]; exact List.mem_map_of_mem (List.getElem_mem hlt))
    refine KGO ?_
    rw [hzi]
    generalize hxi : lx[i] = x at *
    refine Store.fresh (vs := mrC x) (by rfl) rfl (flat_of (by rfl)) ?_
    have a_b4 := at_fresh wr 42 (mrC x)
    have k_w11 : Keeps wr (wr.alloc (.cells (List.toArray (mrC x)) 42)) none_ := (Keeps.refl _ _).alloc _
    have z_w11 : (wr.alloc (.cells (List.toArray (mrC x)) 42)).heap.size = wr.heap.size + 1 := by simp
    generalize wr.alloc (.cells (List.toArray (mrC x)) 42) = w11 at *
    generalize hs_b4 : wr.heap.size = b4 at *
    have hat1 := at_mono hat k_w11
    refine KGO ?_
    refine Draw.heldTail 5 (fun u => Keeps w11 u none_) (fun _ => true) (by decide +kernel) (by decide +kernel) (Keeps.refl _ _).drew ?_
    (first | refine Then.go hmix ?_ | refine Sat.go hmix ?_ | refine ResK.go ?_ | skip); conv => whnf
    refine KGO ?_
    refine CallS.of (Tryz.call41 _ _) (ac_copied (w := w11.drew) x (hmo.keep k_w11.drew) (by have := hsi.1; omega) (by have := hsi.2; omega)) ?_
    rintro e w12 ⟨y, rfl, hy, oy1, oy2, apy, k12⟩
    have J12 : Keeps w11 w12 none_ := (Keeps.refl w11 none_).drew.trans0 k12
    have J := k_w11.trans0 J12
    have hvz := hv.keep0 J
    refine ⟨_, rfl, ?_⟩; (first | refine Then.go hmix ?_ | refine Sat.go hmix ?_ | refine ResK.go ?_ | skip); conv => whnf
    refine ⟨J12, ?_⟩
    refine KGO ?_
    have z11 : w11.drew.heap.size = w11.heap.size := rfl
    have zk := k12.size
    refine Store.elemK (l := zs) (k := i) (B := w5.heap.size) (cap := c6) y lenMl (by rfl) (flat_of (by rfl)) hvz hBg (by omega) hcm hcl (by rw [hzl]; exact htk) (by omega) fun w13 o13 v13 k13 => ?_
    refine KGO ?_
    have hset : zs.set i y = (ys ++ [y]) ++ lx.drop (i + 1) := by
      rw [hz, List.set_append_right _ _ (by omega), hyl, Nat.sub_self, List.drop_eq_getElem_cons hlt, List.set_cons_zero]
      simp
    rw [hset, hzl] at o13
    have hg6 : g < w6.heap.size := (hbM g rfl).2
    have hyb : y.m.boxes = x.m.boxes := by rw [hy]
    have hyf : y.m.flags = x.m.flags := by rw [hy]
    have hsz : w6.heap.size ≤ w11.drew.heap.size := by rw [z11]; have := k_w11.size; omega
    have zk13 := k13.size
    have zw11 := k_w11.size
    have ky := nd_app hnd (bs_nd apy (fun k hk => ⟨(by have := (oy1.lt k hk).1; omega), Nat.lt_of_lt_of_le (oy1.lt k hk).2 zk13⟩) (fun k hk => ⟨(by have := (oy2.lt k hk).1; omega), Nat.lt_of_lt_of_le (oy2.lt k hk).2 zk13⟩)) (by omega)
    have hg11 : g < w11.drew.heap.size := by omega
    have Kst : Keeps wr w13 (one_ g) := J.of_none.trans' k13
    refine ⟨(i + 1, ys ++ [y]), ⟨rfl, rfl, rfl, rfl, v_int (by simp), trivial⟩, ⟨keeps_new (hK.trans0 J) k13 (by omega), by dsimp only; omega, by dsimp only; rw [List.length_append, hyl]; rfl, ?_, o13, fun z hzm => ?_, ?_, vb.keep Kst (fun e => by have e : b1 = g := e; omega), vr.keep Kst (fun e => by have e : b2 = g := e; omega), own_keep o3 Kst (fun k hk e => apB k hk (by rw [show k = g from e]; rfl)), own_keep o4 Kst (fun k hk e => apS k hk (by rw [show k = g from e]; rfl)), own_keep o5 Kst (fun k hk e => apN k hk (by rw [show k = g from e]; rfl)), by omega⟩, by dsimp only; omega⟩
    · dsimp only
      rw [List.map_append, List.take_succ_eq_append_getElem hlt, List.map_append, hym, hxi]
      simp [hy]
    · rcases List.mem_append.1 hzm with hzm | hzm
      · exact ⟨own_keep1 (own_keep0 (hin z hzm).1 J) k13 hg6, own_keep1 (own_keep0 (hin z hzm).2 J) k13 hg6⟩
      · rw [List.mem_singleton.1 hzm, hyb, hyf]
        exact ⟨own_base (own_keep1 oy1 k13 hg11) hsz, own_base (own_keep1 oy2 k13 hg11) hsz⟩
    · dsimp only
      rw [List.flatMap_append, ← List.append_assoc]
      simpa using ky
  · have ht : lx.drop i = [] := List.drop_eq_nil_of_le (by omega)
    rw [ht, List.append_nil] at o6
    rw [List.take_of_length_le (by omega), hm] at hym
    have kr : Keeps wr wr none_ := Keeps.refl _ _
    refine KGO ?_
    refine Store.varK (accC ⟨⟨a3, A.boxes.length, c3⟩, ⟨a6, lx.length, c6⟩, ⟨a4, A.scripts.length, c4⟩, ⟨a5, A.seen.length, c5⟩⟩ A) vr (by rfl) rfl (flat_of (by rfl)) fun w11 vr k11 => ?_
    have hat := vr.at
    refine KGO ?_
    (first | refine Then.go hmix ?_ | refine Sat.go hmix ?_ | refine ResK.go ?_ | skip); conv => whnf
    refine KGO ?_
    (first | refine Then.go hmix ?_ | refine Sat.go hmix ?_ | refine ResK.go ?_ | skip); conv => whnf
    have hyn : ys.length = lx.length := by omega
    have b5 : b2 < w5.heap.size := by omega
    refine ⟨⟨⟨a3, A.boxes.length, c3⟩, ⟨a6, lx.length, c6⟩, ⟨a4, A.scripts.length, c4⟩, ⟨a5, A.seen.length, c5⟩⟩, ys, rfl, ⟨own_base (own_keep1 o3 k11 bl2) (by omega), own_base (own_keep1 o4 k11 (by omega)) (by omega), own_base (own_keep1 o5 k11 (by omega)) (by omega), ?_, hym, fun z hz => ⟨own_base (own_keep1 (hin z hz).1 k11 (by omega)) (by omega), own_base (own_keep1 (hin z hz).2 k11 (by omega)) (by omega)⟩, ?_⟩, keeps_new hK k11 (by omega)⟩
    · unfold OwnMl
      rw [hyn]
      exact own_base (own_keep1 o6 k11 b5) (by omega)
    · have := hnd.1
      rw [← hNL] at this
      simpa [Hd.bs] using this
end
end Go.Proofs.YtohhkegmbgancaaGreatDoor
