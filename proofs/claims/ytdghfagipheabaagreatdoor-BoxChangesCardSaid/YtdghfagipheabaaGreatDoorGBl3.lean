/- Helper text of this claim: Bl3, Bl4, Bx11, Bx12, Bq1: lemmas and contracts that the proved statement rests on; no conditions of its own. -/
import Derived.Test.YtdghfagipheabaaGreatDoorGBw14
import Derived.Test.YtdghfagipheabaaGreatDoorGOpn
import Derived.Test.YtdghfagipheabaaGreatDoorGBx9
-- alias Tryz
namespace Go.Proofs.YtdghfagipheabaaGreatDoor
open Go.RowKit Go.Pw Go.Vc Go.Cs Go.Lib
set_option linter.unusedVariables false
set_option maxRecDepth 100000
def bA : Bx := ⟨5, 0, [65], [105, 110, 98, 111, 120]⟩
def LA : List Bx := [bA]
def LB : List Bx := [⟨2, 5, [98], []⟩, bA]
def LC : List Bx := [⟨2, 0, [98], []⟩, bA]
def LN : List Bx := [⟨2, 5, [120], []⟩, bA]
theorem sA : SmallB LA := by unfold SmallB; decide
theorem sB : SmallB LB := by unfold SmallB; decide
theorem sC : SmallB LC := by unfold SmallB; decide
theorem sN : SmallB LN := by unfold SmallB; decide
theorem e1 : addL [] 0 [65] [105, 110, 98, 111, 120] 5 = (LA, 0) := by decide +kernel
theorem e2 : addL LA 5 [98] [] 2 = (LB, 0) := by decide +kernel
theorem e3 : addL LB 5 [66] [] 3 = ([], 4) := by decide +kernel
theorem e4 : addL LB 0 [99] [105, 110, 98, 111, 120] 3 = ([], 4) := by decide +kernel
theorem e5 : moveL LB 5 2 = ([], 11) := by decide +kernel
theorem e6 : moveL LB 2 0 = (LC, 0) := by decide +kernel
theorem e7 : dropL LB 5 = ([], 20) := by decide +kernel
theorem e8 : dropL LB 2 = (LA, 0) := by decide +kernel
theorem e9 : nameL LB 2 [120] = (LN, 0) := by decide +kernel
theorem e10 : addL LB 9 [99] [] 3 = ([], 5) := by decide +kernel
theorem e11 : pathL LB [97, 47, 66] = some 2 := by decide +kernel
theorem e12 : roleOf LB [105, 110, 98, 111, 120] = some 5 := by decide +kernel
theorem e13 : fullL LB 2 = [65, 47, 98] := by decide +kernel
theorem e14 : fullL LC 2 = [98] := by decide +kernel
theorem e15 : fullL LN 2 = [65, 47, 120] := by decide +kernel
theorem e16 : rightL LB = true := by decide +kernel
theorem e17 : namedB [195, 132] = true := by decide +kernel
theorem e18 : namedB [97, 47, 98] = false := by decide +kernel
theorem e19 : namedB [255] = false := by decide +kernel
theorem e20 : namedB [] = false := by decide +kernel
section
variable {w w' : World}
theorem row_nil : RowB w (.slice none 0 0) [] := ⟨none, 0, rfl, fun h => absurd h (Nat.lt_irrefl 0)⟩
theorem row_shape {v : Value} {l : List Bx} (h : RowB w v l) : ∃ a c, v = .slice a l.length c := let ⟨a, c, e, _⟩ := h; ⟨a, c, e⟩
theorem OwnB.row {B : Nat} {v : Value} {l : List Bx} (h : OwnB w B v l) : RowB w v l := own_rowO h
theorem build_box3 (a b : Int) (s : ByteArray) (w : World) : (Instr.build 39 [(0, .int .i64 a), (1, .int .i64 b), (2, .string s)].toArray).run Tryz.prog w = .ok (.agg #[.int .i64 a, .int .i64 b, .string s, .string ⟨#[]⟩]) w := by
  simp [Instr.build, Instr.fill, go_sem, Tryz.runUnderlying39]
theorem build_box4 (a : Int) (s t : ByteArray) (w : World) : (Instr.build 39 [(0, .int .i64 a), (2, .string s), (3, .string t)].toArray).run Tryz.prog w = .ok (.agg #[.int .i64 a, .int .i64 0, .string s, .string t]) w := by
  simp [Instr.build, Instr.fill, go_sem, Tryz.runUnderlying39]
theorem build_boxes2 (b c : Bx) (w : World) : (Instr.buildSlice 22 2 [(0, .agg #[.int .i64 b.id, .int .i64 b.up, .string (str b.name), .string (str b.role)]), (1, .agg #[.int .i64 c.id, .int .i64 c.up, .string (str c.name), .string (str c.role)])].toArray).run Tryz.prog w = .ok (.slice (some ⟨w.heap.size, 0, none⟩) 2 2) (w.alloc (.cells (boxCells b ++ boxCells c).toArray 39)) := by
  simp [Instr.buildSlice, go_sem, Tryz.runUnderlying22, boxCells]
set_option maxHeartbeats 4000000 in
theorem lw_small (hE : BEnv w) : Calls Tryz.prog 4 #[] w fun e w' => e = .returned (.bool true) ∧ Keeps w w' none_ := by
  refine calls_of_vc (args := []) Tryz.func4 rfl (Nat.le_of_ble_eq_true rfl) ?_; refine Sat.go hmix ?_; conv => whnf
  refine CallS.of (Tryz.call9 _ _) (bx_Add (w := w) [] 0 [65] [105, 110, 98, 111, 120] 5 row_nil (by decide) (fun b hb => by cases hb) (by decide) hE) ?_
  rintro e w1 ⟨v1, rfl, o1, k1⟩
  rw [e1] at o1; rw [e1]; dsimp only at o1 ⊢
  have K1 : Keeps w w1 none_ := k1
  have r1 := o1.row; clear o1
  obtain ⟨a1, c1, rfl⟩ := row_shape r1
  refine ⟨_, rfl, ?_⟩; (first | refine Then.go hmix ?_ | refine Sat.go hmix ?_ | refine ResK.go ?_ | skip); conv => whnf
  refine KGO ?_
  refine CallS.of (Tryz.call9 _ _) (bx_Add (w := w1) LA 5 [98] [] 2 r1 (by decide) sA (by decide) (hE.keep K1)) ?_
  rintro e w2 ⟨v2, rfl, o2, k2⟩
  rw [e2] at o2; rw [e2]; dsimp only at o2 ⊢
  have K2 : Keeps w w2 none_ := K1.trans0 k2
  have r2 := o2.row; clear o2
  obtain ⟨a2, c2, rfl⟩ := row_shape r2
  have r1 := r1.keep k2
  refine ⟨_, rfl, ?_⟩; (first | refine Then.go hmix ?_ | refine Sat.go hmix ?_ | refine ResK.go ?_ | skip); conv => whnf
  refine KGO ?_
  refine CallS.of (Tryz.call9 _ _) (bx_Add (w := w2) LB 5 [66] [] 3 r2 (by decide) sB (by decide) (hE.keep K2)) ?_
  rintro e w3 ⟨v3, rfl, o3, k3⟩
  rw [e3] at o3; rw [e3]; dsimp only at o3 ⊢
  have K3 : Keeps w w3 none_ := K2.trans0 k3
  have r3 := o3.row; clear o3
  obtain ⟨a3, c3, rfl⟩ := row_shape r3
  have r1 := r1.keep k3
  have r2 := r2.keep k3
  refine ⟨_, rfl, ?_⟩; (first | refine Then.go hmix ?_ | refine Sat.go hmix ?_ | refine ResK.go ?_ | skip); conv => whnf
  refine KGO ?_
  refine CallS.of (Tryz.call9 _ _) (bx_Add (w := w3) LB 0 [99] [105, 110, 98, 111, 120] 3 r2 (by decide) sB (by decide) (hE.keep K3)) ?_
  rintro e w4 ⟨v4, rfl, o4, k4⟩
  rw [e4] at o4; rw [e4]; dsimp only at o4 ⊢
  have K4 : Keeps w w4 none_ := K3.trans0 k4
  have r4 := o4.row; clear o4
  obtain ⟨a4, c4, rfl⟩ := row_shape r4
  have r1 := r1.keep k4
  have r2 := r2.keep k4
  refine ⟨_, rfl, ?_⟩; (first | refine Then.go hmix ?_ | refine Sat.go hmix ?_ | refine ResK.go ?_ | skip); conv => whnf
  refine KGO ?_
  refine CallS.of (Tryz.call10 _ _) (bx_Move (w := w4) LB 5 2 r2 (by decide) sB (hE.keep K4)) ?_
  rintro e w5 ⟨v5, rfl, o5, k5⟩
  rw [e5] at o5; rw [e5]; dsimp only at o5 ⊢
  have K5 : Keeps w w5 none_ := K4.trans0 k5
  have r5 := o5.row; clear o5
  obtain ⟨a5, c5, rfl⟩ := row_shape r5
  have r1 := r1.keep k5
  have r2 := r2.keep k5
  refine ⟨_, rfl, ?_⟩; (first | refine Then.go hmix ?_ | refine Sat.go hmix ?_ | refine ResK.go ?_ | skip); conv => whnf
  refine KGO ?_
  refine CallS.of (Tryz.call10 _ _) (bx_Move (w := w5) LB 2 0 r2 (by decide) sB (hE.keep K5)) ?_
  rintro e w6 ⟨v6, rfl, o6, k6⟩
  rw [e6] at o6; rw [e6]; dsimp only at o6 ⊢
  have K6 : Keeps w w6 none_ := K5.trans0 k6
  have r6 := o6.row; clear o6
  obtain ⟨a6, c6, rfl⟩ := row_shape r6
  have r1 := r1.keep k6
  have r2 := r2.keep k6
  refine ⟨_, rfl, ?_⟩; (first | refine Then.go hmix ?_ | refine Sat.go hmix ?_ | refine ResK.go ?_ | skip); conv => whnf
  refine KGO ?_
  refine CallS.of (Tryz.call11 _ _) (bx_Drop (w := w6) LB 5 r2 (by decide) sB (hE.keep K6)) ?_
  rintro e w7 ⟨v7, rfl, o7, k7⟩
  rw [e7] at o7; rw [e7]; dsimp only at o7 ⊢
  have K7 : Keeps w w7 none_ := K6.trans0 k7
  have r7 := o7.row; clear o7
  obtain ⟨a7, c7, rfl⟩ := row_shape r7
  have r1 := r1.keep k7
  have r2 := r2.keep k7
  have r6 := r6.keep k7
  refine ⟨_, rfl, ?_⟩; (first | refine Then.go hmix ?_ | refine Sat.go hmix ?_ | refine ResK.go ?_ | skip); conv => whnf
  refine KGO ?_
  refine CallS.of (Tryz.call11 _ _) (bx_Drop (w := w7) LB 2 r2 (by decide) sB (hE.keep K7)) ?_
  rintro e w8 ⟨v8, rfl, o8, k8⟩
  rw [e8] at o8; rw [e8]; dsimp only at o8 ⊢
  have K8 : Keeps w w8 none_ := K7.trans0 k8
  have r8 := o8.row; clear o8
  obtain ⟨a8, c8, rfl⟩ := row_shape r8
  have r1 := r1.keep k8
  have r2 := r2.keep k8
  have r6 := r6.keep k8
  refine ⟨_, rfl, ?_⟩; (first | refine Then.go hmix ?_ | refine Sat.go hmix ?_ | refine ResK.go ?_ | skip); conv => whnf
  refine KGO ?_
  refine CallS.of (Tryz.call12 _ _) (bx_Name (w := w8) LB 2 [120] r2 (by decide) sB (by decide) (hE.keep K8)) ?_
  rintro e w9 ⟨v9, rfl, o9, k9⟩
  rw [e9] at o9; rw [e9]; dsimp only at o9 ⊢
  have K9 : Keeps w w9 none_ := K8.trans0 k9
  have r9 := o9.row; clear o9
  obtain ⟨a9, c9, rfl⟩ := row_shape r9
  have r1 := r1.keep k9
  have r2 := r2.keep k9
  have r6 := r6.keep k9
  have r8 := r8.keep k9
  refine ⟨_, rfl, ?_⟩; (first | refine Then.go hmix ?_ | refine Sat.go hmix ?_ | refine ResK.go ?_ | skip); conv => whnf
  refine KGO ?_
  refine CallS.of (Tryz.call9 _ _) (bx_Add (w := w9) LB 9 [99] [] 3 r2 (by decide) sB (by decide) (hE.keep K9)) ?_
  rintro e w10 ⟨v10, rfl, o10, k10⟩
  rw [e10] at o10; rw [e10]; dsimp only at o10 ⊢
  have K10 : Keeps w w10 none_ := K9.trans0 k10
  have r10 := o10.row; clear o10
  obtain ⟨a10, c10, rfl⟩ := row_shape r10
  have r1 := r1.keep k10
  have r2 := r2.keep k10
  have r6 := r6.keep k10
  have r8 := r8.keep k10
  have r9 := r9.keep k10
  refine ⟨_, rfl, ?_⟩; (first | refine Then.go hmix ?_ | refine Sat.go hmix ?_ | refine ResK.go ?_ | skip); conv => whnf
  refine KGO ?_
  refine CallS.of (Tryz.call13 _ _) (bx_Path (w := w10) LB [97, 47, 66] r2 (by decide) sB (by decide) (hE.keep K10)) ?_
  rintro e w11 ⟨rfl, k11⟩
  rw [e11]
  have K11 := K10.trans0 k11
  refine ⟨_, rfl, ?_⟩; (first | refine Then.go hmix ?_ | refine Sat.go hmix ?_ | refine ResK.go ?_ | skip); conv => whnf
  refine KGO ?_
  refine CallS.of (Tryz.call14 _ _) (bx_Role (w := w11) LB [105, 110, 98, 111, 120] (r2.keep k11) (by decide)) ?_
  rintro e w12 ⟨rfl, k12⟩
  rw [e12]
  have K12 := K11.trans0 k12
  have J12 := k11.trans0 k12
  refine ⟨_, rfl, ?_⟩; (first | refine Then.go hmix ?_ | refine Sat.go hmix ?_ | refine ResK.go ?_ | skip); conv => whnf
  refine KGO ?_
  have r1 := r1.keep J12
  have r2 := r2.keep J12
  have r6 := r6.keep J12
  have r8 := r8.keep J12
  have r9 := r9.keep J12
  refine RunV.of (build_box3 _ _ _ _) ?_
  refine KGO ?_
  refine RunV.of (build_box4 _ _ _ _) ?_
  refine KGO ?_
  refine RunV.of (build_boxes2 ⟨2, 5, [98], []⟩ bA _) ?_
  have f13 : RowB (w12.alloc (.cells (boxCells ⟨2, 5, [98], []⟩ ++ boxCells bA).toArray 39)) (.slice (some ⟨w12.heap.size, 0, none⟩) LB.length 2) LB := ⟨_, 2, rfl, fun _ => ⟨_, 0, rfl, by simp, at_fresh _ _ _⟩⟩
  have k13 : Keeps w12 (w12.alloc (.cells (boxCells ⟨2, 5, [98], []⟩ ++ boxCells bA).toArray 39)) none_ := (Keeps.refl _ _).alloc _
  have K13 := K12.trans0 k13
  have r1 := r1.keep k13
  have r2 := r2.keep k13
  have r6 := r6.keep k13
  have r8 := r8.keep k13
  have r9 := r9.keep k13
  generalize w12.alloc (.cells (boxCells ⟨2, 5, [98], []⟩ ++ boxCells bA).toArray 39) = w13 at *
  generalize w12.heap.size = g13 at *
  refine KGO ?_
  refine CallS.of (Tryz.call8 _ _) (rf_Same (w := w13) LB LB r2 f13 (by decide)) ?_
  rintro e w14 ⟨rfl, k14⟩
  rw [decide_eq_true (rfl : LB = LB)]
  have K14 := K13.trans0 k14
  refine ⟨_, rfl, ?_⟩; (first | refine Then.go hmix ?_ | refine Sat.go hmix ?_ | refine ResK.go ?_ | skip); conv => whnf
  refine KGO ?_
  refine CallS.of (Tryz.call15 _ _) (bx_Full (w := w14) LB 2 (by decide) sB (r2.keep k14) (hE.keep K14)) ?_
  rintro e w15 ⟨rfl, k15⟩
  rw [e13]
  have K15 := K14.trans0 k15
  have J15 := k14.trans0 k15
  refine ⟨_, rfl, ?_⟩; (first | refine Then.go hmix ?_ | refine Sat.go hmix ?_ | refine ResK.go ?_ | skip); conv => whnf
  refine KGO ?_
  refine CallS.of (Tryz.call16 _ _) (bx_Right (w := w15) LB (r2.keep J15) (by decide) sB (hE.F.keep K15) (hE.T.keep K15) (hE.R.keep K15)) ?_
  rintro e w16 ⟨rfl, k16⟩
  rw [e16]
  have K16 := K15.trans0 k16
  have J16 := J15.trans0 k16
  refine ⟨_, rfl, ?_⟩; (first | refine Then.go hmix ?_ | refine Sat.go hmix ?_ | refine ResK.go ?_ | skip); conv => whnf
  refine KGO ?_
  refine CallS.of (Tryz.call8 _ _) (rf_Same (w := w16) LA LA (r8.keep J16) (r1.keep J16) (by decide)) ?_
  rintro e w17 ⟨rfl, k17⟩
  rw [decide_eq_true (rfl : LA = LA)]
  have K17 := K16.trans0 k17
  have J17 := J16.trans0 k17
  refine ⟨_, rfl, ?_⟩; (first | refine Then.go hmix ?_ | refine Sat.go hmix ?_ | refine ResK.go ?_ | skip); conv => whnf
  refine KGO ?_
  refine CallS.of (Tryz.call15 _ _) (bx_Full (w := w17) LC 2 (by decide) sC (r6.keep J17) (hE.keep K17)) ?_
  rintro e w18 ⟨rfl, k18⟩
  rw [e14]
  have K18 := K17.trans0 k18
  have J18 := J17.trans0 k18
  refine ⟨_, rfl, ?_⟩; (first | refine Then.go hmix ?_ | refine Sat.go hmix ?_ | refine ResK.go ?_ | skip); conv => whnf
  refine KGO ?_
  refine CallS.of (Tryz.call15 _ _) (bx_Full (w := w18) LN 2 (by decide) sN (r9.keep J18) (hE.keep K18)) ?_
  rintro e w19 ⟨rfl, k19⟩
  rw [e15]
  have K19 := K18.trans0 k19
  refine ⟨_, rfl, ?_⟩; (first | refine Then.go hmix ?_ | refine Sat.go hmix ?_ | refine ResK.go ?_ | skip); conv => whnf
  refine KGO ?_
  refine CallS.of (Tryz.call17 _ _) (bx_Named (w := w19) (str [195, 132]) (hE.T.keep K19) (by decide)) ?_
  rintro e w20 ⟨rfl, k20⟩
  rw [L_str, e17]
  have K20 := K19.trans0 k20
  refine ⟨_, rfl, ?_⟩; (first | refine Then.go hmix ?_ | refine Sat.go hmix ?_ | refine ResK.go ?_ | skip); conv => whnf
  refine KGO ?_
  refine CallS.of (Tryz.call17 _ _) (bx_Named (w := w20) (str [97, 47, 98]) (hE.T.keep K20) (by decide)) ?_
  rintro e w21 ⟨rfl, k21⟩
  rw [L_str, e18]
  have K21 := K20.trans0 k21
  refine ⟨_, rfl, ?_⟩; (first | refine Then.go hmix ?_ | refine Sat.go hmix ?_ | refine ResK.go ?_ | skip); conv => whnf
  refine KGO ?_
  refine CallS.of (Tryz.call17 _ _) (bx_Named (w := w21) (str [255]) (hE.T.keep K21) (by decide)) ?_
  rintro e w22 ⟨rfl, k22⟩
  rw [L_str, e19]
  have K22 := K21.trans0 k22
  refine ⟨_, rfl, ?_⟩; (first | refine Then.go hmix ?_ | refine Sat.go hmix ?_ | refine ResK.go ?_ | skip); conv => whnf
  refine KGO ?_
  refine CallS.of (Tryz.call17 _ _) (bx_Named (w := w22) (str []) (hE.T.keep K22) (by decide)) ?_
  rintro e w23 ⟨rfl, k23⟩
  rw [L_str, e20]
  have K23 := K22.trans0 k23
  refine ⟨_, rfl, ?_⟩; (first | refine Then.go hmix ?_ | refine Sat.go hmix ?_ | refine ResK.go ?_ | skip); conv => whnf
  refine KGO ?_
  exact ⟨rfl, K23⟩
end
end Go.Proofs.YtdghfagipheabaaGreatDoor

-- alias Tryz
namespace Go.Proofs.YtdghfagipheabaaGreatDoor
open Go.RowKit Go.Pw Go.Vc Go.Cs Go.Lib
set_option linter.unusedVariables false
set_option maxRecDepth 100000
theorem small_right {l : List Bx} (h : RightP l) : SmallB l := fun b hb => by
  have h1 := ((named_iff _).1 (h.named b hb)).2.1
  have h2 : ∀ r ∈ rolesL, r.length ≤ 7 := by decide
  have h3 := h2 _ (h.roles b hb)
  omega
theorem small_few {l : List Bx} (h : fewB l = true) : SmallB l ∧ l.length ≤ 70 := by
  unfold fewB at h
  rw [Bool.and_eq_true, decide_eq_true_eq, List.all_eq_true] at h
  refine ⟨fun b hb => ?_, h.1⟩
  have := h.2 b hb
  simp only [Bool.and_eq_true, decide_eq_true_eq] at this
  omega
theorem full_short {l : List Bx} (h : RightP l) (id : Int) : (fullL l id).length ≤ 6464 := by
  unfold fullL
  split
  · have := fullN_len (fun b hb => ((named_iff _).1 (h.named b hb)).2.1) l.length id
    have := h.len
    omega
  · simp
theorem path_full {l : List Bx} (h : RightP l) {b : Bx} (hb : b ∈ l) {p : List UInt8} (hp : foldL p = foldL (fullL l b.id)) : pathL l p = some b.id := by
  unfold pathL
  rw [if_pos ((rightL_iff l).2 h)]
  refine (path_iff h p b.id).2 ⟨b, hb, rfl, ?_⟩
  rw [hp, fullL, if_pos ((rightL_iff l).2 h)]
section
variable {w w' : World}
end
end Go.Proofs.YtdghfagipheabaaGreatDoor

namespace Go.Cs
open Go.Lib
set_option linter.unusedVariables false
/-! ### The reference's look-ups, plain -/
def findN (l : List Bx) (id : Int) : Nat := (l.takeWhile fun b => decide (b.id ≠ id)).length
def findV (l : List Bx) (id : Int) : Int := if findN l id < l.length then (findN l id : Int) else -1
theorem findN_cons (b : Bx) (l : List Bx) (id : Int) : findN (b :: l) id = if b.id = id then 0 else findN l id + 1 := by
  unfold findN
  by_cases h : b.id = id
  · rw [if_pos h, List.takeWhile_cons_of_neg (by simpa using h)]; rfl
  · rw [if_neg h, List.takeWhile_cons_of_pos (by simpa using h)]; rfl
theorem findN_at : ∀ {l : List Bx} {id : Int} {i : Nat} (hi : i < l.length), (∀ b ∈ l.take i, b.id ≠ id) → l[i].id = id → findN l id = i
  | b :: l, id, 0, hi, _, e => by
    have e : b.id = id := e
    rw [findN_cons, if_pos e]
  | b :: l, id, i + 1, hi, h, e => by
    rw [findN_cons, if_neg (h b (by simp)), findN_at (by simpa using hi) (fun c hc => h c (by simp [hc])) (by simpa using e)]
theorem findN_end : ∀ {l : List Bx} {id : Int}, (∀ b ∈ l, b.id ≠ id) → findN l id = l.length
  | [], id, _ => rfl
  | b :: l, id, h => by rw [findN_cons, if_neg (h b (by simp)), findN_end fun c hc => h c (by simp [hc]), List.length_cons]
theorem boxOf_find : ∀ (l : List Bx) (id : Int), boxOf l id = l[findN l id]?
  | [], id => rfl
  | b :: l, id => by
    rw [findN_cons]
    unfold boxOf
    by_cases h : b.id = id
    · rw [if_pos h, List.find?_cons_of_pos (by simpa using h)]; rfl
    · rw [if_neg h, List.find?_cons_of_neg (by simpa using h), List.getElem?_cons_succ]
      exact boxOf_find l id
theorem findN_le (l : List Bx) (id : Int) : findN l id ≤ l.length := (List.takeWhile_prefix _).length_le
theorem find_neg {l : List Bx} {id : Int} : findV l id < 0 ↔ boxOf l id = none := by
  rw [boxOf_find, List.getElem?_eq_none_iff]
  unfold findV
  split <;> omega
theorem find_nat {l : List Bx} {id : Int} {b : Bx} (h : boxOf l id = some b) : ∃ hk : findN l id < l.length, l[findN l id] = b ∧ findV l id = (findN l id : Nat) := by
  rw [boxOf_find] at h
  obtain ⟨h1, h2⟩ := List.getElem?_eq_some_iff.1 h
  exact ⟨h1, h2, by unfold findV; rw [if_pos h1]⟩
def deepR (l : List Bx) (id : Int) : Nat := (dep l l.length id).getD 1000
def deepAt (l : List Bx) (id : Int) (n : Nat) : Nat := if n ≤ l.length then (match dep l (l.length - n) id with | some d => d + n | none => 1000) else 1000
theorem deepAt_zero (l : List Bx) (id : Int) : deepAt l id 0 = deepR l id := by
  unfold deepAt deepR
  rw [if_pos (Nat.zero_le _), Nat.sub_zero]
  cases dep l l.length id <;> rfl
theorem deepAt_root (l : List Bx) (n : Nat) (hn : n ≤ l.length) : deepAt l 0 n = n := by
  unfold deepAt
  rw [if_pos hn]
  have : ∀ m, dep l m 0 = some 0 := fun m => by cases m <;> simp [dep]
  rw [this]; simp
theorem deepAt_none {l : List Bx} {id : Int} (n : Nat) (h0 : id ≠ 0) (h : boxOf l id = none) : deepAt l id n = 1000 := by
  unfold deepAt
  split
  · have : dep l (l.length - n) id = none := by
      cases l.length - n with
      | zero => simp [dep, h0]
      | succ m => simp [dep, h0, boxOf_up, h]
    rw [this]
  · rfl
theorem deepAt_step {l : List Bx} {id : Int} {b : Bx} (n : Nat) (h0 : id ≠ 0) (h : boxOf l id = some b) (hn : n ≤ l.length) : deepAt l id n = deepAt l b.up (n + 1) := by
  unfold deepAt
  rw [if_pos hn]
  by_cases h1 : n + 1 ≤ l.length
  · rw [if_pos h1, show l.length - n = (l.length - (n + 1)) + 1 by omega]
    rw [dep, if_neg h0, boxOf_up, h]
    dsimp only [Option.map_some]
    cases dep l (l.length - (n + 1)) b.up with
    | none => rfl
    | some d => show d + 1 + n = d + (n + 1); omega
  · rw [if_neg h1, show l.length - n = 0 by omega]
    simp [dep, h0]
theorem deepAt_end (l : List Bx) (id : Int) : deepAt l id (l.length + 1) = 1000 := by unfold deepAt; rw [if_neg (by omega)]
theorem deepR_le {l : List Bx} {id : Int} : deepR l id ≤ 8 ↔ ∃ d, dep l l.length id = some d ∧ d ≤ 8 := by
  unfold deepR
  cases dep l l.length id with
  | none => simp
  | some d => simp
theorem deepR_of {l : List Bx} {id : Int} {d : Nat} (h : Dep l d id) : deepR l id = d := by
  unfold deepR
  rw [(dep_iff _ _ _ _).2 ⟨h, h.len⟩]; rfl
theorem deepR_bd (l : List Bx) (id : Int) : deepR l id ≤ l.length + 1000 := by
  unfold deepR
  cases h : dep l l.length id with
  | none => simp
  | some d => have := dep_le _ _ _ _ h; simp only [Option.getD_some]; omega
/-! ### What the reference asks of each mailbox -/
structure OkR (l : List Bx) (i : Nat) (b : Bx) : Prop where
  named : namedB b.name = true
  role : b.role ∈ rolesL
  pos : 1 ≤ b.id ∧ b.id ≤ 1099511627776
  asc : ∀ c, 0 < i → l[i - 1]? = some c → c.id < b.id
  deep : deepR l b.id ≤ 8
  free : ∀ k c, k < i → l[k]? = some c → ¬ (c.role = b.role ∧ b.role ≠ []) ∧ ¬ (c.up = b.up ∧ foldL c.name = foldL b.name)
theorem right_ref (l : List Bx) : rightL l = true ↔ l.length ≤ 64 ∧ ∀ i (hi : i < l.length), OkR l i l[i] := by
  rw [rightL_iff]
  constructor
  · intro h
    refine ⟨h.len, fun i hi => ⟨h.named _ (List.getElem_mem hi), h.roles _ (List.getElem_mem hi), h.pos _ (List.getElem_mem hi), fun c h0 hc => ?_, deepR_le.2 (h.deep _ (List.getElem_mem hi)), fun k c hk hc => ?_⟩⟩
    · obtain ⟨h1, rfl⟩ := List.getElem?_eq_some_iff.1 hc
      exact List.pairwise_iff_getElem.1 h.asc _ _ h1 hi (by omega)
    · obtain ⟨h1, rfl⟩ := List.getElem?_eq_some_iff.1 hc
      refine ⟨fun e => List.pairwise_iff_getElem.1 h.urole _ _ h1 hi hk ⟨e.2, e.1⟩, List.pairwise_iff_getElem.1 h.uniq _ _ h1 hi hk⟩
  · rintro ⟨h64, h⟩
    have hall : ∀ {p : Bx → Prop}, (∀ i (hi : i < l.length), p l[i]) → ∀ b ∈ l, p b := fun hp b hb => by
      obtain ⟨i, hi, rfl⟩ := List.getElem_of_mem hb
      exact hp i hi
    have hasc : ∀ (d i : Nat) (hi : i + d + 1 < l.length), l[i].id < l[i + d + 1].id := by
      intro d
      induction d with
      | zero => intro i hi; exact (h (i + 1) hi).asc l[i] (by omega) (by rw [Nat.add_sub_cancel]; exact List.getElem?_eq_getElem (by omega))
      | succ d ih =>
        intro i hi
        have h1 := ih i (by omega)
        have h2 := (h (i + (d + 1) + 1) hi).asc l[i + d + 1] (by omega) (by rw [Nat.add_sub_cancel]; exact List.getElem?_eq_getElem (by omega))
        omega
    refine ⟨h64, hall fun i hi => (h i hi).pos, List.pairwise_iff_getElem.2 fun i j hi hj hij => ?_, hall fun i hi => (h i hi).named, hall fun i hi => (h i hi).role, List.pairwise_iff_getElem.2 fun i j hi hj hij => ((h j hj).free i _ hij (List.getElem?_eq_getElem hi)).2,
      List.pairwise_iff_getElem.2 fun i j hi hj hij e => ((h j hj).free i _ hij (List.getElem?_eq_getElem hi)).1 ⟨e.2, e.1⟩, hall fun i hi => deepR_le.1 (h i hi).deep⟩
    have := hasc (j - i - 1) i (by omega)
    simpa [show i + (j - i - 1) + 1 = j by omega] using this
/-! ### Paths, from their end -/
theorem join_pre : ∀ (a b : List (List UInt8)), b ≠ [] → (joinS b).length ≤ (joinS (a ++ b)).length
  | [], b, _ => Nat.le_refl _
  | x :: a, b, hb => by
    have h := join_pre a b hb
    cases hab : a ++ b with
    | nil => simp at hab; exact absurd hab.2 hb
    | cons y r =>
      rw [hab] at h
      rw [List.cons_append, hab, joinS, List.length_append, List.length_cons]; omega
theorem role_some (l : List Bx) (r : List UInt8) : (roleOf l r).isSome = decide (r ≠ [] ∧ (l.any fun b => decide (b.role = r)) = true) := by
  unfold roleOf
  by_cases h : r = []
  · simp [h]
  · rw [if_neg h, Option.isSome_map, Bool.eq_iff_iff, List.find?_isSome, decide_eq_true_eq, List.any_eq_true]
    exact ⟨fun h2 => ⟨h, h2⟩, fun h2 => h2.2⟩
end Go.Cs

namespace Go.Cs
open Go.Lib
set_option linter.unusedVariables false
/-! ### Depths as the reference checks them -/
theorem dpt_ref {l : List Bx} (hr : RightP l) {up : Int} (hup : up = 0 ∨ hasId l up = true) : deepR l up = dpt l up := by
  have h := (dep_up hr (up := up) (hup.imp id fun h => (hasId_iff _ _).1 h)).1
  rw [deepR_of h]
theorem deep_moved {l : List Bx} (hr : RightP l) {x : Bx} (hx : x ∈ l) {up : Int} (hup : up = 0 ∨ hasId l up = true) (hn : ¬ Reach l x.id up) :
    8 < dpt l up + belowL l x.id ↔ ∃ b ∈ setUp l x.id up, 8 < deepR (setUp l x.id up) b.id := by
  have h := move_deep hr hx (hup.imp id fun h => (hasId_iff _ _).1 h) hn
  constructor
  · intro h8
    refine Classical.byContradiction fun hc => ?_
    have : dpt l up + belowL l x.id ≤ 8 := h.2 fun b hb => by
      have h1 : deepR (setUp l x.id up) b.id ≤ 8 := Nat.le_of_not_lt fun h2 => hc ⟨b, hb, h2⟩
      obtain ⟨d, h2, h3⟩ := deepR_le.1 h1
      exact ⟨d, ((dep_iff _ _ _ _).1 h2).1, h3⟩
    omega
  · rintro ⟨b, hb, h8⟩
    refine Nat.lt_of_not_le fun hc => ?_
    obtain ⟨d, h2, h3⟩ := h.1 hc b hb
    rw [deepR_of h2] at h8
    omega
theorem has_box {l : List Bx} {id : Int} : hasId l id = (boxOf l id).isSome := by
  rw [Bool.eq_iff_iff, hasId_iff, boxOf, List.find?_isSome]
  simp
end Go.Cs
namespace Go.Cs
theorem idx_first : ∀ {l : List Bx} {id : Int} {i : Nat}, i ≤ l.length → (∀ b ∈ l.take i, b.id < id) → (∀ b, l[i]? = some b → ¬ b.id < id) → idxL l id = i
  | [], id, i, hi, _, _ => by
    have : i = 0 := by simpa using hi
    subst this; rfl
  | b :: l, id, 0, _, _, h => by
    unfold idxL
    rw [List.takeWhile_cons_of_neg (by simpa using h b rfl)]; rfl
  | b :: l, id, i + 1, hi, h, h2 => by
    have e := idx_first (l := l) (id := id) (i := i) (by simpa using hi) (fun c hc => h c (by simp [hc])) (fun c hc => h2 c (by simpa using hc))
    unfold idxL at e ⊢
    rw [List.takeWhile_cons_of_pos (by simpa using h b (by simp)), List.length_cons, e]
end Go.Cs

-- alias Tryz
namespace Go.Proofs.YtdghfagipheabaaGreatDoor
open Go.RowKit Go.Pw Go.Vc Go.Cs Go.Lib
set_option linter.unusedVariables false
set_option maxRecDepth 100000
theorem str_nilq (s : List UInt8) : decide (str s = (⟨#[]⟩ : ByteArray)) = decide (s = []) := by
  by_cases h : s = []
  · rw [h]; rfl
  · rw [decide_eq_false h]
    exact decide_eq_false fun e => h (by have := congrArg L e; rwa [L_str] at this)
theorem optV_shape (o : Option Int) : ∃ i q, optV o = .tuple #[.int .i64 i, .bool q] := by cases o <;> exact ⟨_, _, rfl⟩
section
variable {w w' : World}
set_option maxHeartbeats 1000000 in
theorem rq_find {v : Value} (l : List Bx) (id : Int) (hv : RowB w v l) (hl : l.length ≤ 1000000) : Calls Tryz.prog 44 #[v, .int .i64 id] w fun e w' => e = .returned (.int .i64 (findV l id)) ∧ Keeps w w' none_ := by
  obtain ⟨a, cap, rfl, hr⟩ := hv
  refine calls_of_vc (args := [.slice a l.length cap, .int .i64 id]) Tryz.func44 rfl (Nat.le_of_ble_eq_true rfl) ?_; refine Sat.go hmix ?_; conv => whnf
  refine Loop.intro (ι := Nat) (fun i => [(0, .slice a l.length cap), (1, .int .i64 id), (5, .int .i64 (i : Nat))])
    (fun i wr => Keeps w wr none_ ∧ i ≤ l.length ∧ ∀ b ∈ l.take i, b.id ≠ id) (fun i => l.length - i) 0 ⟨rfl, rfl, rfl, trivial⟩ ⟨Keeps.refl _ _, Nat.zero_le _, by simp⟩ ?_
  rintro i gg wr ⟨hK, hi, ht⟩
  (first | refine Then.go hmix ?_ | refine Sat.go hmix ?_ | refine ResK.go ?_ | skip); conv => whnf
  by_cases hlt : i < l.length
  · obtain ⟨g, o, rfl, hg, hat⟩ := hr (by omega)
    have htk : l.take (i + 1) = l.take i ++ [l[i]] := List.take_succ_eq_append_getElem hlt
    by_cases he : l[i].id = id
    · refine KGO ?_
      refine ⟨?_, hK⟩
      unfold findV
      rw [findN_at hlt ht he, if_pos hlt]
    · refine KGO ?_
      refine ⟨i + 1, ⟨rfl, rfl, v_int (by simp), trivial⟩, ⟨hK, by omega, ?_⟩, by dsimp only; omega⟩
      rw [htk]
      intro b hb
      rcases List.mem_append.1 hb with hb | hb
      · exact ht b hb
      · rw [List.mem_singleton.1 hb]; exact he
  · refine KGO ?_
    refine ⟨?_, hK⟩
    rw [List.take_of_length_le (by omega)] at ht
    unfold findV
    rw [findN_end ht, if_neg (Nat.lt_irrefl _)]
set_option maxHeartbeats 1000000 in
theorem rq_deep {v : Value} (l : List Bx) (id : Int) (hv : RowB w v l) (hl : l.length ≤ 1000000) : Calls Tryz.prog 45 #[v, .int .i64 id] w fun e w' => e = .returned (.int .i64 (deepR l id : Nat)) ∧ Keeps w w' none_ := by
  have hv0 := hv
  obtain ⟨a, cap, rfl, hr⟩ := hv
  refine calls_of_vc (args := [.slice a l.length cap, .int .i64 id]) Tryz.func45 rfl (Nat.le_of_ble_eq_true rfl) ?_; refine Sat.go hmix ?_; conv => whnf
  refine Loop.intro (ι := Nat × Int) (fun i => [(0, .slice a l.length cap), (1, .int .i64 i.2), (5, .int .i64 (i.1 : Nat))])
    (fun i wr => Keeps w wr none_ ∧ i.1 ≤ l.length + 1 ∧ deepR l id = deepAt l i.2 i.1) (fun i => l.length + 1 - i.1) (0, id) ⟨rfl, rfl, rfl, trivial⟩ ⟨Keeps.refl _ _, Nat.zero_le _, (deepAt_zero _ _).symm⟩ ?_
  rintro ⟨n, y⟩ gg wr ⟨hK, hn, ht⟩
  dsimp only at hn ht ⊢
  (first | refine Then.go hmix ?_ | refine Sat.go hmix ?_ | refine ResK.go ?_ | skip); conv => whnf
  by_cases hlt : n ≤ l.length
  · by_cases h0 : y = 0
    · refine KGO ?_
      rw [ht, h0, deepAt_root l n hlt]
      exact ⟨rfl, hK⟩
    · refine KGO ?_
      refine CallS.of (Tryz.call44 _ _) (rq_find (w := wr) l y (hv0.keep hK) hl) ?_
      rintro e w1 ⟨rfl, k1⟩
      refine ⟨_, rfl, ?_⟩; (first | refine Then.go hmix ?_ | refine Sat.go hmix ?_ | refine ResK.go ?_ | skip); conv => whnf
      have K1 := hK.trans0 k1
      cases hb : boxOf l y with
      | none =>
        have hneg := find_neg.2 hb
        refine KGO ?_
        rw [ht, deepAt_none n h0 hb]
        exact ⟨rfl, K1⟩
      | some b =>
        obtain ⟨hk, he, hf⟩ := find_nat hb
        rw [hf]
        obtain ⟨g, o, rfl, hg, hat⟩ := hr (by omega)
        refine KGO ?_
        rw [he]
        refine KGO ?_
        exact ⟨(n + 1, b.up), ⟨rfl, rfl, v_int (by simp), trivial⟩, ⟨K1, by dsimp only; omega, by rw [ht, deepAt_step n h0 hb hlt]⟩, by dsimp only; omega⟩
  · refine KGO ?_
    have e : n = l.length + 1 := by omega
    rw [ht, e, deepAt_end]
    exact ⟨rfl, hK⟩
theorem role_fact (s : List UInt8) (i : Nat) (hi : i < rolesL.length) : decide (str rolesL[i] = str s) = decide (rolesL[i] = s) := by
  rw [decide_eq_decide, str_eq]
set_option maxHeartbeats 1000000 in
theorem rq_Equal (a b : List UInt8) (ha : a.length ≤ 100000000) (hb : b.length ≤ 100000000) : Calls Tryz.prog 67 #[.string (str a), .string (str b)] w fun e w' => e = .returned (.bool (decide (foldL a = foldL b))) ∧ Keeps w w' none_ := by
  refine calls_of_vc (args := [.string (str a), .string (str b)]) Tryz.func67 rfl (Nat.le_of_ble_eq_true rfl) ?_; refine Sat.go hmix ?_; conv => whnf
  refine CallS.of (Tryz.call81 _ _) (ref_Fold05 (w := w) (str a) (by rw [str_size]; omega)) ?_
  rintro e w1 ⟨rfl, k1⟩
  rw [L_str]
  refine ⟨_, rfl, ?_⟩; (first | refine Then.go hmix ?_ | refine Sat.go hmix ?_ | refine ResK.go ?_ | skip); conv => whnf
  refine KGO ?_
  refine CallS.of (Tryz.call81 _ _) (ref_Fold05 (w := w1) (str b) (by rw [str_size]; omega)) ?_
  rintro e w2 ⟨rfl, k2⟩
  rw [L_str]
  refine ⟨_, rfl, ?_⟩; (first | refine Then.go hmix ?_ | refine Sat.go hmix ?_ | refine ResK.go ?_ | skip); conv => whnf
  refine KGO ?_
  refine ⟨ret_bool ?_, k1.trans0 k2⟩
  rw [decide_eq_decide, str_eq]
set_option maxHeartbeats 1000000 in
theorem rq_Role {v : Value} (l : List Bx) (r : List UInt8) (hv : RowB w v l) (hl : l.length ≤ 1000000) : Calls Tryz.prog 43 #[v, .string (str r)] w fun e w' => e = .returned (optV (roleOf l r)) ∧ Keeps w w' none_ := by
  obtain ⟨a, cap, rfl, hr⟩ := hv
  refine calls_of_vc (args := [.slice a l.length cap, .string (str r)]) Tryz.func43 rfl (Nat.le_of_ble_eq_true rfl) ?_; refine Sat.go hmix ?_; conv => whnf
  have hrd : decide (str r = (⟨#[]⟩ : ByteArray)) = decide (r = []) := by
    by_cases h : r = []
    · rw [h]; rfl
    · rw [decide_eq_false h]
      exact decide_eq_false fun e => h (by have := congrArg L e; rwa [L_str] at this)
  refine Loop.intro (ι := Nat) (fun i => [(0, .slice a l.length cap), (1, .string (str r)), (6, .int .i64 (i : Nat))])
    (fun i wr => Keeps w wr none_ ∧ i ≤ l.length ∧ roleOf l r = roleOf (l.drop i) r) (fun i => l.length - i) 0 ⟨rfl, rfl, rfl, trivial⟩ ⟨Keeps.refl _ _, Nat.zero_le _, rfl⟩ ?_
  rintro i gg wr ⟨hK, hi, ht⟩
  (first | refine Then.go hmix ?_ | refine Sat.go hmix ?_ | refine ResK.go ?_ | skip); conv => whnf
  by_cases hlt : i < l.length
  · obtain ⟨g, o, rfl, hg, hat⟩ := hr (by omega)
    rw [List.drop_eq_getElem_cons hlt] at ht
    have hq : decide (str l[i].role = str r) = decide (l[i].role = r) := by rw [decide_eq_decide, str_eq]
    by_cases he : l[i].role = r
    · rw [decide_eq_true he] at hq
      by_cases h0 : r = []
      · rw [decide_eq_true h0] at hrd
        refine KGO ?_
        refine ⟨i + 1, ⟨rfl, rfl, v_int (by simp), trivial⟩, ⟨hK, by omega, ?_⟩, by dsimp only; omega⟩
        rw [ht]; unfold roleOf; rw [if_pos h0, if_pos h0]
      · rw [decide_eq_false h0] at hrd
        refine KGO ?_
        refine ⟨?_, hK⟩
        rw [ht]
        unfold roleOf
        rw [if_neg h0, List.find?_cons_of_pos (by simpa using he)]; rfl
    · rw [decide_eq_false he] at hq
      refine KGO ?_
      refine ⟨i + 1, ⟨rfl, rfl, v_int (by simp), trivial⟩, ⟨hK, by omega, ?_⟩, by dsimp only; omega⟩
      rw [ht]
      unfold roleOf
      by_cases h0 : r = []
      · rw [if_pos h0, if_pos h0]
      · rw [if_neg h0, if_neg h0, List.find?_cons_of_neg (by simpa using he)]
  · refine KGO ?_
    refine ⟨?_, hK⟩
    rw [ht, List.drop_eq_nil_of_le (by omega)]
    unfold roleOf
    by_cases h0 : r = []
    · rw [if_pos h0]; rfl
    · rw [if_neg h0]; rfl
theorem fine_code (b : UInt8) : fineB b = true ↔ ¬ b.toNat < 32 ∧ ¬ b.toNat = 127 ∧ ¬ b.toNat = 47 := by
  unfold fineB
  simp [and_assoc]
set_option maxHeartbeats 1000000 in
theorem rq_Named (s : ByteArray) (hs : s.size ≤ 100000000) : Calls Tryz.prog 40 #[.string s] w fun e w' => e = .returned (.bool (namedB (L s))) ∧ Keeps w w' none_ := by
  have hl := L_len s
  refine calls_of_vc (args := [.string s]) Tryz.func40 rfl (Nat.le_of_ble_eq_true rfl) ?_; refine Sat.go hmix ?_; conv => whnf
  refine Loop.intro (ι := Nat) (fun i => [(0, .string s), (3, .int .i64 i)])
    (fun i wr => Keeps w wr none_ ∧ i ≤ s.size ∧ ∀ b ∈ (L s).take i, fineB b = true) (fun i => s.size - i) 0 ⟨rfl, rfl, trivial⟩
    ⟨Keeps.refl _ _, Nat.zero_le _, by simp⟩ ?_
  rintro n g wr ⟨hK, hn, ht⟩
  (first | refine Then.go hmix ?_ | refine Sat.go hmix ?_ | refine ResK.go ?_ | skip); conv => whnf
  by_cases hlt : n < s.size
  · have hn2 : n < (L s).length := by omega
    have hbe : byteAt s n = (L s)[n] := by
      show (L s).getD n 0 = _
      rw [List.getD, List.getElem?_eq_getElem hn2]; rfl
    have htk : (L s).take (n + 1) = (L s).take n ++ [byteAt s n] := by rw [List.take_succ_eq_append_getElem hn2, hbe]
    have hmem : byteAt s n ∈ L s := by rw [hbe]; exact List.getElem_mem hn2
    have hfc := fine_code (byteAt s n)
    have hbad : ¬ fineB (byteAt s n) = true → namedB (L s) = false := fun h => by
      cases hq : namedB (L s) with
      | false => rfl
      | true => exact absurd (((named_iff _).1 hq).2.2.2 _ hmem) h
    have hxl := UInt8.toNat_lt (byteAt s n)
    by_cases h1 : (byteAt s n).toNat < 32
    · refine KGO ?_
      exact ⟨ret_bool (hbad fun h => (hfc.1 h).1 h1).symm, hK⟩
    by_cases h2 : (byteAt s n).toNat = 127
    · refine KGO ?_
      exact ⟨ret_bool (hbad fun h => (hfc.1 h).2.1 h2).symm, hK⟩
    by_cases h3 : (byteAt s n).toNat = 47
    · refine KGO ?_
      exact ⟨ret_bool (hbad fun h => (hfc.1 h).2.2 h3).symm, hK⟩
    refine KGO ?_
    refine ⟨n + 1, ⟨rfl, v_int (by simp), trivial⟩, ⟨hK, by omega, ?_⟩, by dsimp only; omega⟩
    rw [htk]
    intro b hb
    rcases List.mem_append.1 hb with hb | hb
    · exact ht b hb
    · rw [List.mem_singleton.1 hb]; exact hfc.2 ⟨h1, h2, h3⟩
  · refine KGO ?_
    rw [List.take_of_length_le (by omega)] at ht
    have hall : (L s).all fineB = true := List.all_eq_true.2 ht
    have hN : namedB (L s) = (decide (1 ≤ s.size) && decide (s.size ≤ 100) && validD (L s)) := by
      unfold namedB
      rw [hall, Bool.and_true, hl]
    rw [hN]
    by_cases h1 : 1 ≤ s.size
    · by_cases h2 : s.size ≤ 100
      · refine KGO ?_
        refine CallS.of (Tryz.call66 _ _) (ref_Valid (w := wr) s (by omega)) ?_
        rintro e w1 ⟨rfl, k1⟩
        refine ⟨_, rfl, ?_⟩; (first | refine Then.go hmix ?_ | refine Sat.go hmix ?_ | refine ResK.go ?_ | skip); conv => whnf
        refine KGO ?_
        refine ⟨ret_bool ?_, hK.trans0 k1⟩
        rw [decide_eq_true h1, decide_eq_true h2]; rfl
      · refine KGO ?_
        refine ⟨ret_bool ?_, hK⟩
        rw [decide_eq_false h2]; simp
    · refine KGO ?_
      refine ⟨ret_bool ?_, hK⟩
      rw [decide_eq_false h1]; simp
end
end Go.Proofs.YtdghfagipheabaaGreatDoor
