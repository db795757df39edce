/- Helper text of this claim: Bl3, Bl4, TabF, Bl7: lemmas and contracts that the proved statement rests on; no conditions of its own. -/
import Derived.Test.YtdghfagipheabaaDoorGBw14
import Derived.Test.YtdghfagipheabaaDoorGCw3
import Derived.Test.YtdghfagipheabaaDoorRows
import Derived.Lib.LaidU8
import Derived.Test.YtdghfagipheabaaDoorGOpn
-- alias Tryd
namespace Go.Proofs.YtdghfagipheabaaDoor
open Go.RowKit Go.Pw Go.Vc Go.Cs Go.Lib
set_option linter.unusedVariables false
set_option maxRecDepth 100000
def bA : Bx := ⟨5, 0, [65], [105, 110, 98, 111, 120]⟩
def LA : List Bx := [bA]
def LB : List Bx := [⟨2, 5, [98], []⟩, bA]
def LC : List Bx := [⟨2, 0, [98], []⟩, bA]
def LN : List Bx := [⟨2, 5, [120], []⟩, bA]
theorem sA : SmallB LA := by unfold SmallB; decide
theorem sB : SmallB LB := by unfold SmallB; decide
theorem sC : SmallB LC := by unfold SmallB; decide
theorem sN : SmallB LN := by unfold SmallB; decide
theorem e1 : addL [] 0 [65] [105, 110, 98, 111, 120] 5 = (LA, 0) := by decide +kernel
theorem e2 : addL LA 5 [98] [] 2 = (LB, 0) := by decide +kernel
theorem e3 : addL LB 5 [66] [] 3 = ([], 4) := by decide +kernel
theorem e4 : addL LB 0 [99] [105, 110, 98, 111, 120] 3 = ([], 4) := by decide +kernel
theorem e5 : moveL LB 5 2 = ([], 11) := by decide +kernel
theorem e6 : moveL LB 2 0 = (LC, 0) := by decide +kernel
theorem e7 : dropL LB 5 = ([], 20) := by decide +kernel
theorem e8 : dropL LB 2 = (LA, 0) := by decide +kernel
theorem e9 : nameL LB 2 [120] = (LN, 0) := by decide +kernel
theorem e10 : addL LB 9 [99] [] 3 = ([], 5) := by decide +kernel
theorem e11 : pathL LB [97, 47, 66] = some 2 := by decide +kernel
theorem e12 : roleOf LB [105, 110, 98, 111, 120] = some 5 := by decide +kernel
theorem e13 : fullL LB 2 = [65, 47, 98] := by decide +kernel
theorem e14 : fullL LC 2 = [98] := by decide +kernel
theorem e15 : fullL LN 2 = [65, 47, 120] := by decide +kernel
theorem e16 : rightL LB = true := by decide +kernel
theorem e17 : namedB [195, 132] = true := by decide +kernel
theorem e18 : namedB [97, 47, 98] = false := by decide +kernel
theorem e19 : namedB [255] = false := by decide +kernel
theorem e20 : namedB [] = false := by decide +kernel
section
variable {w w' : World}
theorem row_nil : RowB w (.slice none 0 0) [] := ⟨none, 0, rfl, fun h => absurd h (Nat.lt_irrefl 0)⟩
theorem row_shape {v : Value} {l : List Bx} (h : RowB w v l) : ∃ a c, v = .slice a l.length c := let ⟨a, c, e, _⟩ := h; ⟨a, c, e⟩
theorem OwnB.row {B : Nat} {v : Value} {l : List Bx} (h : OwnB w B v l) : RowB w v l := own_rowO h
theorem build_box3 (a b : Int) (s : ByteArray) (w : World) : (Instr.build 37 [(0, .int .i64 a), (1, .int .i64 b), (2, .string s)].toArray).run Tryd.prog w = .ok (.agg #[.int .i64 a, .int .i64 b, .string s, .string ⟨#[]⟩]) w := by
  simp [Instr.build, Instr.fill, go_sem, Tryd.runUnderlying37]
theorem build_box4 (a : Int) (s t : ByteArray) (w : World) : (Instr.build 37 [(0, .int .i64 a), (2, .string s), (3, .string t)].toArray).run Tryd.prog w = .ok (.agg #[.int .i64 a, .int .i64 0, .string s, .string t]) w := by
  simp [Instr.build, Instr.fill, go_sem, Tryd.runUnderlying37]
theorem build_boxes2 (b c : Bx) (w : World) : (Instr.buildSlice 22 2 [(0, .agg #[.int .i64 b.id, .int .i64 b.up, .string (str b.name), .string (str b.role)]), (1, .agg #[.int .i64 c.id, .int .i64 c.up, .string (str c.name), .string (str c.role)])].toArray).run Tryd.prog w = .ok (.slice (some ⟨w.heap.size, 0, none⟩) 2 2) (w.alloc (.cells (boxCells b ++ boxCells c).toArray 37)) := by
  simp [Instr.buildSlice, go_sem, Tryd.runUnderlying22, boxCells]
set_option maxHeartbeats 4000000 in
theorem lw_small (hE : BEnv w) : Calls Tryd.prog 7 #[] w fun e w' => e = .returned (.bool true) ∧ Keeps w w' none_ := by
  refine calls_of_vc (args := []) Tryd.func7 rfl (Nat.le_of_ble_eq_true rfl) ?_; refine Sat.go hmix ?_; conv => whnf
  refine CallS.of (Tryd.call24 _ _) (bx_Add (w := w) [] 0 [65] [105, 110, 98, 111, 120] 5 row_nil (by decide) (fun b hb => by cases hb) (by decide) hE) ?_
  rintro e w1 ⟨v1, rfl, o1, k1⟩
  rw [e1] at o1; rw [e1]; dsimp only at o1 ⊢
  have K1 : Keeps w w1 none_ := k1
  have r1 := o1.row; clear o1
  obtain ⟨a1, c1, rfl⟩ := row_shape r1
  refine ⟨_, rfl, ?_⟩; (first | refine Then.go hmix ?_ | refine Sat.go hmix ?_ | refine ResK.go ?_ | skip); conv => whnf
  refine KGO ?_
  refine CallS.of (Tryd.call24 _ _) (bx_Add (w := w1) LA 5 [98] [] 2 r1 (by decide) sA (by decide) (hE.keep K1)) ?_
  rintro e w2 ⟨v2, rfl, o2, k2⟩
  rw [e2] at o2; rw [e2]; dsimp only at o2 ⊢
  have K2 : Keeps w w2 none_ := K1.trans0 k2
  have r2 := o2.row; clear o2
  obtain ⟨a2, c2, rfl⟩ := row_shape r2
  have r1 := r1.keep k2
  refine ⟨_, rfl, ?_⟩; (first | refine Then.go hmix ?_ | refine Sat.go hmix ?_ | refine ResK.go ?_ | skip); conv => whnf
  refine KGO ?_
  refine CallS.of (Tryd.call24 _ _) (bx_Add (w := w2) LB 5 [66] [] 3 r2 (by decide) sB (by decide) (hE.keep K2)) ?_
  rintro e w3 ⟨v3, rfl, o3, k3⟩
  rw [e3] at o3; rw [e3]; dsimp only at o3 ⊢
  have K3 : Keeps w w3 none_ := K2.trans0 k3
  have r3 := o3.row; clear o3
  obtain ⟨a3, c3, rfl⟩ := row_shape r3
  have r1 := r1.keep k3
  have r2 := r2.keep k3
  refine ⟨_, rfl, ?_⟩; (first | refine Then.go hmix ?_ | refine Sat.go hmix ?_ | refine ResK.go ?_ | skip); conv => whnf
  refine KGO ?_
  refine CallS.of (Tryd.call24 _ _) (bx_Add (w := w3) LB 0 [99] [105, 110, 98, 111, 120] 3 r2 (by decide) sB (by decide) (hE.keep K3)) ?_
  rintro e w4 ⟨v4, rfl, o4, k4⟩
  rw [e4] at o4; rw [e4]; dsimp only at o4 ⊢
  have K4 : Keeps w w4 none_ := K3.trans0 k4
  have r4 := o4.row; clear o4
  obtain ⟨a4, c4, rfl⟩ := row_shape r4
  have r1 := r1.keep k4
  have r2 := r2.keep k4
  refine ⟨_, rfl, ?_⟩; (first | refine Then.go hmix ?_ | refine Sat.go hmix ?_ | refine ResK.go ?_ | skip); conv => whnf
  refine KGO ?_
  refine CallS.of (Tryd.call23 _ _) (bx_Move (w := w4) LB 5 2 r2 (by decide) sB (hE.keep K4)) ?_
  rintro e w5 ⟨v5, rfl, o5, k5⟩
  rw [e5] at o5; rw [e5]; dsimp only at o5 ⊢
  have K5 : Keeps w w5 none_ := K4.trans0 k5
  have r5 := o5.row; clear o5
  obtain ⟨a5, c5, rfl⟩ := row_shape r5
  have r1 := r1.keep k5
  have r2 := r2.keep k5
  refine ⟨_, rfl, ?_⟩; (first | refine Then.go hmix ?_ | refine Sat.go hmix ?_ | refine ResK.go ?_ | skip); conv => whnf
  refine KGO ?_
  refine CallS.of (Tryd.call23 _ _) (bx_Move (w := w5) LB 2 0 r2 (by decide) sB (hE.keep K5)) ?_
  rintro e w6 ⟨v6, rfl, o6, k6⟩
  rw [e6] at o6; rw [e6]; dsimp only at o6 ⊢
  have K6 : Keeps w w6 none_ := K5.trans0 k6
  have r6 := o6.row; clear o6
  obtain ⟨a6, c6, rfl⟩ := row_shape r6
  have r1 := r1.keep k6
  have r2 := r2.keep k6
  refine ⟨_, rfl, ?_⟩; (first | refine Then.go hmix ?_ | refine Sat.go hmix ?_ | refine ResK.go ?_ | skip); conv => whnf
  refine KGO ?_
  refine CallS.of (Tryd.call25 _ _) (bx_Drop (w := w6) LB 5 r2 (by decide) sB (hE.keep K6)) ?_
  rintro e w7 ⟨v7, rfl, o7, k7⟩
  rw [e7] at o7; rw [e7]; dsimp only at o7 ⊢
  have K7 : Keeps w w7 none_ := K6.trans0 k7
  have r7 := o7.row; clear o7
  obtain ⟨a7, c7, rfl⟩ := row_shape r7
  have r1 := r1.keep k7
  have r2 := r2.keep k7
  have r6 := r6.keep k7
  refine ⟨_, rfl, ?_⟩; (first | refine Then.go hmix ?_ | refine Sat.go hmix ?_ | refine ResK.go ?_ | skip); conv => whnf
  refine KGO ?_
  refine CallS.of (Tryd.call25 _ _) (bx_Drop (w := w7) LB 2 r2 (by decide) sB (hE.keep K7)) ?_
  rintro e w8 ⟨v8, rfl, o8, k8⟩
  rw [e8] at o8; rw [e8]; dsimp only at o8 ⊢
  have K8 : Keeps w w8 none_ := K7.trans0 k8
  have r8 := o8.row; clear o8
  obtain ⟨a8, c8, rfl⟩ := row_shape r8
  have r1 := r1.keep k8
  have r2 := r2.keep k8
  have r6 := r6.keep k8
  refine ⟨_, rfl, ?_⟩; (first | refine Then.go hmix ?_ | refine Sat.go hmix ?_ | refine ResK.go ?_ | skip); conv => whnf
  refine KGO ?_
  refine CallS.of (Tryd.call26 _ _) (bx_Name (w := w8) LB 2 [120] r2 (by decide) sB (by decide) (hE.keep K8)) ?_
  rintro e w9 ⟨v9, rfl, o9, k9⟩
  rw [e9] at o9; rw [e9]; dsimp only at o9 ⊢
  have K9 : Keeps w w9 none_ := K8.trans0 k9
  have r9 := o9.row; clear o9
  obtain ⟨a9, c9, rfl⟩ := row_shape r9
  have r1 := r1.keep k9
  have r2 := r2.keep k9
  have r6 := r6.keep k9
  have r8 := r8.keep k9
  refine ⟨_, rfl, ?_⟩; (first | refine Then.go hmix ?_ | refine Sat.go hmix ?_ | refine ResK.go ?_ | skip); conv => whnf
  refine KGO ?_
  refine CallS.of (Tryd.call24 _ _) (bx_Add (w := w9) LB 9 [99] [] 3 r2 (by decide) sB (by decide) (hE.keep K9)) ?_
  rintro e w10 ⟨v10, rfl, o10, k10⟩
  rw [e10] at o10; rw [e10]; dsimp only at o10 ⊢
  have K10 : Keeps w w10 none_ := K9.trans0 k10
  have r10 := o10.row; clear o10
  obtain ⟨a10, c10, rfl⟩ := row_shape r10
  have r1 := r1.keep k10
  have r2 := r2.keep k10
  have r6 := r6.keep k10
  have r8 := r8.keep k10
  have r9 := r9.keep k10
  refine ⟨_, rfl, ?_⟩; (first | refine Then.go hmix ?_ | refine Sat.go hmix ?_ | refine ResK.go ?_ | skip); conv => whnf
  refine KGO ?_
  refine CallS.of (Tryd.call9 _ _) (bx_Path (w := w10) LB [97, 47, 66] r2 (by decide) sB (by decide) (hE.keep K10)) ?_
  rintro e w11 ⟨rfl, k11⟩
  rw [e11]
  have K11 := K10.trans0 k11
  refine ⟨_, rfl, ?_⟩; (first | refine Then.go hmix ?_ | refine Sat.go hmix ?_ | refine ResK.go ?_ | skip); conv => whnf
  refine KGO ?_
  refine CallS.of (Tryd.call11 _ _) (bx_Role (w := w11) LB [105, 110, 98, 111, 120] (r2.keep k11) (by decide)) ?_
  rintro e w12 ⟨rfl, k12⟩
  rw [e12]
  have K12 := K11.trans0 k12
  have J12 := k11.trans0 k12
  refine ⟨_, rfl, ?_⟩; (first | refine Then.go hmix ?_ | refine Sat.go hmix ?_ | refine ResK.go ?_ | skip); conv => whnf
  refine KGO ?_
  have r1 := r1.keep J12
  have r2 := r2.keep J12
  have r6 := r6.keep J12
  have r8 := r8.keep J12
  have r9 := r9.keep J12
  refine RunV.of (build_box3 _ _ _ _) ?_
  refine KGO ?_
  refine RunV.of (build_box4 _ _ _ _) ?_
  refine KGO ?_
  refine RunV.of (build_boxes2 ⟨2, 5, [98], []⟩ bA _) ?_
  have f13 : RowB (w12.alloc (.cells (boxCells ⟨2, 5, [98], []⟩ ++ boxCells bA).toArray 37)) (.slice (some ⟨w12.heap.size, 0, none⟩) LB.length 2) LB := ⟨_, 2, rfl, fun _ => ⟨_, 0, rfl, by simp, at_fresh _ _ _⟩⟩
  have k13 : Keeps w12 (w12.alloc (.cells (boxCells ⟨2, 5, [98], []⟩ ++ boxCells bA).toArray 37)) none_ := (Keeps.refl _ _).alloc _
  have K13 := K12.trans0 k13
  have r1 := r1.keep k13
  have r2 := r2.keep k13
  have r6 := r6.keep k13
  have r8 := r8.keep k13
  have r9 := r9.keep k13
  generalize w12.alloc (.cells (boxCells ⟨2, 5, [98], []⟩ ++ boxCells bA).toArray 37) = w13 at *
  generalize w12.heap.size = g13 at *
  refine KGO ?_
  refine CallS.of (Tryd.call22 _ _) (rf_Same (w := w13) LB LB r2 f13 (by decide)) ?_
  rintro e w14 ⟨rfl, k14⟩
  rw [decide_eq_true (rfl : LB = LB)]
  have K14 := K13.trans0 k14
  refine ⟨_, rfl, ?_⟩; (first | refine Then.go hmix ?_ | refine Sat.go hmix ?_ | refine ResK.go ?_ | skip); conv => whnf
  refine KGO ?_
  refine CallS.of (Tryd.call17 _ _) (bx_Full (w := w14) LB 2 (by decide) sB (r2.keep k14) (hE.keep K14)) ?_
  rintro e w15 ⟨rfl, k15⟩
  rw [e13]
  have K15 := K14.trans0 k15
  have J15 := k14.trans0 k15
  refine ⟨_, rfl, ?_⟩; (first | refine Then.go hmix ?_ | refine Sat.go hmix ?_ | refine ResK.go ?_ | skip); conv => whnf
  refine KGO ?_
  refine CallS.of (Tryd.call13 _ _) (bx_Right (w := w15) LB (r2.keep J15) (by decide) sB (hE.F.keep K15) (hE.T.keep K15) (hE.R.keep K15)) ?_
  rintro e w16 ⟨rfl, k16⟩
  rw [e16]
  have K16 := K15.trans0 k16
  have J16 := J15.trans0 k16
  refine ⟨_, rfl, ?_⟩; (first | refine Then.go hmix ?_ | refine Sat.go hmix ?_ | refine ResK.go ?_ | skip); conv => whnf
  refine KGO ?_
  refine CallS.of (Tryd.call22 _ _) (rf_Same (w := w16) LA LA (r8.keep J16) (r1.keep J16) (by decide)) ?_
  rintro e w17 ⟨rfl, k17⟩
  rw [decide_eq_true (rfl : LA = LA)]
  have K17 := K16.trans0 k17
  have J17 := J16.trans0 k17
  refine ⟨_, rfl, ?_⟩; (first | refine Then.go hmix ?_ | refine Sat.go hmix ?_ | refine ResK.go ?_ | skip); conv => whnf
  refine KGO ?_
  refine CallS.of (Tryd.call17 _ _) (bx_Full (w := w17) LC 2 (by decide) sC (r6.keep J17) (hE.keep K17)) ?_
  rintro e w18 ⟨rfl, k18⟩
  rw [e14]
  have K18 := K17.trans0 k18
  have J18 := J17.trans0 k18
  refine ⟨_, rfl, ?_⟩; (first | refine Then.go hmix ?_ | refine Sat.go hmix ?_ | refine ResK.go ?_ | skip); conv => whnf
  refine KGO ?_
  refine CallS.of (Tryd.call17 _ _) (bx_Full (w := w18) LN 2 (by decide) sN (r9.keep J18) (hE.keep K18)) ?_
  rintro e w19 ⟨rfl, k19⟩
  rw [e15]
  have K19 := K18.trans0 k19
  refine ⟨_, rfl, ?_⟩; (first | refine Then.go hmix ?_ | refine Sat.go hmix ?_ | refine ResK.go ?_ | skip); conv => whnf
  refine KGO ?_
  refine CallS.of (Tryd.call15 _ _) (bx_Named (w := w19) (str [195, 132]) (hE.T.keep K19) (by decide)) ?_
  rintro e w20 ⟨rfl, k20⟩
  rw [L_str, e17]
  have K20 := K19.trans0 k20
  refine ⟨_, rfl, ?_⟩; (first | refine Then.go hmix ?_ | refine Sat.go hmix ?_ | refine ResK.go ?_ | skip); conv => whnf
  refine KGO ?_
  refine CallS.of (Tryd.call15 _ _) (bx_Named (w := w20) (str [97, 47, 98]) (hE.T.keep K20) (by decide)) ?_
  rintro e w21 ⟨rfl, k21⟩
  rw [L_str, e18]
  have K21 := K20.trans0 k21
  refine ⟨_, rfl, ?_⟩; (first | refine Then.go hmix ?_ | refine Sat.go hmix ?_ | refine ResK.go ?_ | skip); conv => whnf
  refine KGO ?_
  refine CallS.of (Tryd.call15 _ _) (bx_Named (w := w21) (str [255]) (hE.T.keep K21) (by decide)) ?_
  rintro e w22 ⟨rfl, k22⟩
  rw [L_str, e19]
  have K22 := K21.trans0 k22
  refine ⟨_, rfl, ?_⟩; (first | refine Then.go hmix ?_ | refine Sat.go hmix ?_ | refine ResK.go ?_ | skip); conv => whnf
  refine KGO ?_
  refine CallS.of (Tryd.call15 _ _) (bx_Named (w := w22) (str []) (hE.T.keep K22) (by decide)) ?_
  rintro e w23 ⟨rfl, k23⟩
  rw [L_str, e20]
  have K23 := K22.trans0 k23
  refine ⟨_, rfl, ?_⟩; (first | refine Then.go hmix ?_ | refine Sat.go hmix ?_ | refine ResK.go ?_ | skip); conv => whnf
  refine KGO ?_
  exact ⟨rfl, K23⟩
end
end Go.Proofs.YtdghfagipheabaaDoor

-- alias Tryd
namespace Go.Proofs.YtdghfagipheabaaDoor
open Go.RowKit Go.Pw Go.Vc Go.Cs Go.Lib
set_option linter.unusedVariables false
set_option maxRecDepth 100000
theorem small_right {l : List Bx} (h : RightP l) : SmallB l := fun b hb => by
  have h1 := ((named_iff _).1 (h.named b hb)).2.1
  have h2 : ∀ r ∈ rolesL, r.length ≤ 7 := by decide
  have h3 := h2 _ (h.roles b hb)
  omega
theorem small_few {l : List Bx} (h : fewB l = true) : SmallB l ∧ l.length ≤ 70 := by
  unfold fewB at h
  rw [Bool.and_eq_true, decide_eq_true_eq, List.all_eq_true] at h
  refine ⟨fun b hb => ?_, h.1⟩
  have := h.2 b hb
  simp only [Bool.and_eq_true, decide_eq_true_eq] at this
  omega
theorem full_short {l : List Bx} (h : RightP l) (id : Int) : (fullL l id).length ≤ 6464 := by
  unfold fullL
  split
  · have := fullN_len (fun b hb => ((named_iff _).1 (h.named b hb)).2.1) l.length id
    have := h.len
    omega
  · simp
theorem path_full {l : List Bx} (h : RightP l) {b : Bx} (hb : b ∈ l) {p : List UInt8} (hp : foldL p = foldL (fullL l b.id)) : pathL l p = some b.id := by
  unfold pathL
  rw [if_pos ((rightL_iff l).2 h)]
  refine (path_iff h p b.id).2 ⟨b, hb, rfl, ?_⟩
  rw [hp, fullL, if_pos ((rightL_iff l).2 h)]
section
variable {w w' : World}
set_option maxHeartbeats 8000000 in
theorem lw_Stays {v : Value} (acts : List ActB) (hv : RowO w v actCells acts) (hlen : acts.length ≤ 9223372036854775807) (hE : BEnv w) :
    Calls Tryd.prog 4 #[v] w fun e w' => e = .returned (.bool true) ∧ Keeps w w' none_ := by
  have hv0 := hv
  obtain ⟨a, cap, rfl, hr⟩ := hv
  refine calls_of_vc (args := [.slice a acts.length cap]) Tryd.func4 rfl (Nat.le_of_ble_eq_true rfl) ?_; refine Sat.go hmix ?_; conv => whnf
  refine CallS.of (Tryd.call7 _ _) (lw_small (w := w) hE) ?_
  rintro e w1 ⟨rfl, k1⟩
  refine ⟨_, rfl, ?_⟩; (first | refine Then.go hmix ?_ | refine Sat.go hmix ?_ | refine ResK.go ?_ | skip); conv => whnf
  by_cases h30 : 30 < acts.length
  · refine KGO ?_
    exact ⟨rfl, k1⟩
  refine KGO ?_
  refine Loop.intro (ι := Nat × List Bx × Value) (fun p => [(0, .slice a acts.length cap), (3, .bool true), (4, p.2.2), (5, .int .i64 (p.1 : Nat))])
    (fun p wr => Keeps w wr none_ ∧ p.1 ≤ acts.length ∧ RowB wr p.2.2 p.2.1 ∧ RightP p.2.1) (fun p => acts.length - p.1) (0, [], .slice none 0 0) ⟨rfl, rfl, rfl, rfl, trivial⟩ ⟨k1, Nat.zero_le _, row_nil, right_nil⟩ ?_
  rintro ⟨i, l, vl⟩ gg wr ⟨hK, hi, hl, hR⟩
  dsimp only at hi hl hR ⊢
  have hl0 := hl
  obtain ⟨al, cl, rfl, hrl⟩ := hl
  have hl := hl0
  (first | refine Then.go hmix ?_ | refine Sat.go hmix ?_ | refine ResK.go ?_ | skip); conv => whnf
  by_cases hlt : i < acts.length
  · obtain ⟨gb, o, rfl, hgb, hat⟩ := hr (by omega)
    refine KGO ?_
    have hsz := str_size acts[i].Name
    have hsz2 := str_size acts[i].Role
    by_cases q1 : 200 < acts[i].Name.length
    · refine KGO ?_
      exact ⟨rfl, hK⟩
    by_cases q2 : 200 < acts[i].Role.length
    · refine KGO ?_
      exact ⟨rfl, hK⟩
    refine KGO ?_
    generalize acts[i] = x at *
    refine CallS.of (Tryd.call19 _ _) (lw_done (w := wr) l x hl (by have := hR.len; omega) (small_right hR) (by omega) (by omega) (hE.keep hK)) ?_
    rintro e w2 ⟨v2, rfl, o2, k2⟩
    have K2 := hK.trans0 k2
    have r2 := o2.row
    clear o2
    obtain ⟨a2, c2, rfl⟩ := row_shape r2
    refine ⟨_, rfl, ?_⟩; (first | refine Then.go hmix ?_ | refine Sat.go hmix ?_ | refine ResK.go ?_ | skip); conv => whnf
    by_cases he : (doneL l x).2 = 0
    · rw [he]
      have hR2 := done_right l x hR he
      refine KGO ?_
      refine CallS.of (Tryd.call13 _ _) (bx_Right (w := w2) (doneL l x).1 r2 (by have := hR2.len; omega) (small_right hR2) (hE.F.keep K2) (hE.T.keep K2) (hE.R.keep K2)) ?_
      rintro e w3 ⟨rfl, k3⟩
      rw [(rightL_iff _).2 hR2]
      refine ⟨_, rfl, ?_⟩; (first | refine Then.go hmix ?_ | refine Sat.go hmix ?_ | refine ResK.go ?_ | skip); conv => whnf
      refine KGO ?_
      exact ⟨(i + 1, (doneL l x).1, _), ⟨rfl, rfl, rfl, v_int (by simp), trivial⟩, ⟨K2.trans0 k3, by dsimp only; omega, r2.keep k3, hR2⟩, by dsimp only; omega⟩
    · have hnil := done_nil l x he
      rw [hnil] at r2 ⊢
      refine KGO ?_
      refine CallS.of (Tryd.call13 _ _) (bx_Right (w := w2) l (hl.keep k2) (by have := hR.len; omega) (small_right hR) (hE.F.keep K2) (hE.T.keep K2) (hE.R.keep K2)) ?_
      rintro e w3 ⟨rfl, k3⟩
      rw [(rightL_iff _).2 hR]
      refine ⟨_, rfl, ?_⟩; (first | refine Then.go hmix ?_ | refine Sat.go hmix ?_ | refine ResK.go ?_ | skip); conv => whnf
      refine KGO ?_
      exact ⟨(i + 1, l, _), ⟨rfl, rfl, rfl, v_int (by simp), trivial⟩, ⟨K2.trans0 k3, by dsimp only; omega, hl.keep (k2.trans0 k3), hR⟩, by dsimp only; omega⟩
  · refine KGO ?_
    have hl64 := hR.len
    have hsm := small_right hR
    refine Loop.intro (ι := Nat) (fun j => [(3, .bool true), (4, .slice al l.length cl), (8, .int .i64 (j : Nat))])
      (fun j w7 => Keeps wr w7 none_ ∧ j ≤ l.length) (fun j => l.length - j) 0 ⟨rfl, rfl, rfl, trivial⟩ ⟨Keeps.refl _ _, Nat.zero_le _⟩ ?_
    rintro j gg2 w7 ⟨k7, hj⟩
    (first | refine Then.go hmix ?_ | refine Sat.go hmix ?_ | refine ResK.go ?_ | skip); conv => whnf
    by_cases hjt : j < l.length
    · obtain ⟨gb, o, rfl, hgb, hat⟩ := hrl (by omega)
      have hbm := List.getElem_mem hjt
      refine KGO ?_
      refine CallS.of (Tryd.call17 _ _) (bx_Full (w := w7) l l[j].id (by omega) hsm (hl.keep k7) (hE.keep (hK.trans0 k7))) ?_
      rintro e w8 ⟨rfl, k8⟩
      have K8 := (hK.trans0 k7).trans0 k8
      have J8 := k7.trans0 k8
      have hfs := full_short hR l[j].id
      have hfn : fullL l l[j].id ≠ [] := by rw [fullL, if_pos ((rightL_iff l).2 hR)]; exact full_ne hR hbm
      have hp1 := path_full hR hbm (p := fullL l l[j].id) rfl
      have hp2 := path_full hR hbm (p := foldL (fullL l l[j].id)) (fold_fold _)
      have hdf : ∀ i (hi : i < l.length), i < j → foldL (fullL l l[j].id) ≠ foldL (fullL l l[i].id) := fun i hi hij e => by
        rw [fullL, fullL, if_pos ((rightL_iff l).2 hR), if_pos ((rightL_iff l).2 hR)] at e
        have := full_inj hR hbm (List.getElem_mem hi) e
        have h1 := List.pairwise_iff_getElem.1 hR.asc i j hi hjt hij
        rw [this] at h1
        omega
      refine ⟨_, rfl, ?_⟩; (first | refine Then.go hmix ?_ | refine Sat.go hmix ?_ | refine ResK.go ?_ | skip); conv => whnf
      refine KGO ?_
      refine CallS.of (Tryd.call9 _ _) (bx_Path (w := w8) l (fullL l l[j].id) (hl.keep J8) (by omega) hsm (by omega) (hE.keep K8)) ?_
      rintro e w9 ⟨rfl, k9⟩
      have K9 := K8.trans0 k9
      have J9 := J8.trans0 k9
      rw [hp1]
      refine ⟨_, rfl, ?_⟩; (first | refine Then.go hmix ?_ | refine Sat.go hmix ?_ | refine ResK.go ?_ | skip); conv => whnf
      refine KGO ?_
      refine CallS.of (Tryd.call20 _ _) (fold_Fold (w := w9) (str (fullL l l[j].id)) (hE.F.keep K9) (by rw [str_size]; omega)) ?_
      rintro e w10 ⟨rfl, k10⟩
      rw [L_str]
      have K10 := K9.trans0 k10
      have J10 := J9.trans0 k10
      refine ⟨_, rfl, ?_⟩; (first | refine Then.go hmix ?_ | refine Sat.go hmix ?_ | refine ResK.go ?_ | skip); conv => whnf
      refine KGO ?_
      refine CallS.of (Tryd.call9 _ _) (bx_Path (w := w10) l (foldL (fullL l l[j].id)) (hl.keep J10) (by omega) hsm (by rw [fold_len]; omega) (hE.keep K10)) ?_
      rintro e w11 ⟨rfl, k11⟩
      rw [hp2]
      have K11 := K10.trans0 k11
      have J11 := J10.trans0 k11
      refine ⟨_, rfl, ?_⟩; (first | refine Then.go hmix ?_ | refine Sat.go hmix ?_ | refine ResK.go ?_ | skip); conv => whnf
      have hfd : decide (str (fullL l l[j].id) = (⟨#[]⟩ : ByteArray)) = false := decide_eq_false fun h => hfn (by have := congrArg L h; rwa [L_str] at this)
      refine KGO ?_
      refine Loop.intro (ι := Nat) (fun i => [(3, .bool true), (4, .slice (some ⟨gb, o, none⟩) l.length cl), (8, .int .i64 (j : Nat)), (9, .string (str (fullL l l[j].id))), (14, .int .i64 (i : Nat))])
        (fun i w12 => Keeps wr w12 none_ ∧ i ≤ j) (fun i => j - i) 0 ⟨rfl, rfl, rfl, rfl, rfl, trivial⟩ ⟨J11, Nat.zero_le _⟩ ?_
      rintro i2 gg3 w12 ⟨k12, hi2⟩
      (first | refine Then.go hmix ?_ | refine Sat.go hmix ?_ | refine ResK.go ?_ | skip); conv => whnf
      by_cases hit : i2 < j
      · have hit2 : i2 < l.length := by omega
        have hd2 := hdf i2 hit2 hit
        have hfs2 := full_short hR l[i2].id
        refine KGO ?_
        refine CallS.of (Tryd.call17 _ _) (bx_Full (w := w12) l l[i2].id (by omega) hsm (hl.keep k12) (hE.keep (hK.trans0 k12))) ?_
        rintro e w13 ⟨rfl, k13⟩
        refine ⟨_, rfl, ?_⟩; (first | refine Then.go hmix ?_ | refine Sat.go hmix ?_ | refine ResK.go ?_ | skip); conv => whnf
        refine KGO ?_
        refine CallS.of (Tryd.call21 _ _) (fold_Equal2 (w := w13) (fullL l l[j].id) (fullL l l[i2].id) (hE.F.keep ((hK.trans0 k12).trans0 k13)) (by omega) (by omega)) ?_
        rintro e w14 ⟨rfl, k14⟩
        rw [decide_eq_false hd2]
        refine ⟨_, rfl, ?_⟩; (first | refine Then.go hmix ?_ | refine Sat.go hmix ?_ | refine ResK.go ?_ | skip); conv => whnf
        refine KGO ?_
        exact ⟨i2 + 1, ⟨rfl, rfl, rfl, rfl, v_int (by simp), trivial⟩, ⟨(k12.trans0 k13).trans0 k14, by omega⟩, by dsimp only; omega⟩
      · refine KGO ?_
        exact ⟨j + 1, ⟨rfl, rfl, v_int (by simp), trivial⟩, ⟨k12, by omega⟩, by dsimp only; omega⟩
    · refine KGO ?_
      exact ⟨rfl, hK.trans0 k7⟩
end
end Go.Proofs.YtdghfagipheabaaDoor

-- alias Tryd
namespace Go.Proofs.YtdghfagipheabaaDoor
open Go.Shelf Go.RowKit Go.Pw Go.Vc Go.Cs Go.Lib
set_option maxRecDepth 100000
set_option linter.unusedVariables false
/-- A variable that is a slice of structs of integers, laid: its cells. -/
theorem rows_tab {P : Program} {w : World} {name : String} {g : Nat} {tS tE : TypeId} {fs : Array Field} {k : IntKind} {zs : List (List Int)} {rest : List (DataW Unit)}
    (h : VarReads P w name (.slice (zs.map fun r => .agg (r.map fun z => .lit (.int k z))) rest)) (hn : P.globalNamed name = some g) (hy : (P.globals[g]?).map (·.type) = some tS)
    (hS : P.underlying tS = some (.slice tE)) (hE : P.underlying tE = some (.struct fs)) (hf : ∀ (i : Nat) (f : Field), fs[i]? = some f → P.underlying f.type = some (.int k) ∧ f.offset = i ∧ P.cellsOf f.type = 1)
    (hc : P.cellsOf tE = fs.size) (h0 : 0 < fs.size) (hz : 0 < zs.length) : ∃ b o c, w.cell? ⟨g, 0, none⟩ = some (.slice (some ⟨b, o, none⟩) zs.length c) ∧ ∀ i, i < zs.length → At w b (o + i * fs.size) ((zs.getD i []).map fun z => Value.int k z) := by
  obtain ⟨g', t, cs, fuel, p, hg, hty, hvar, hd⟩ := h
  obtain rfl := Option.some.inj (hn.symm.trans hg)
  obtain rfl := Option.some.inj (hy.symm.trans hty)
  rcases DataW.trod_slice hS hd with ⟨_, hx⟩ | ⟨a, len, cap, el, rs, m, rfl, hcs, hx, _, hlc, _, hel, helem, hsp, _⟩
  · cases hx
  have hx1 := congrArg Prod.fst hx
  simp only [DataW.slice.injEq] at hx1
  obtain ⟨eE, eR⟩ := hx1
  have hlen : len = zs.length := by
    have := congrArg List.length eE
    simp at this
    omega
  subst hlen
  have hrange : ∀ i (hi : i < zs.length) j v, (zs[i].map fun z => Value.int k z)[j]? = some v → w.cell? ((a.add (i * fs.size)).add j) = some v := by
    intro i hi j v hv
    have h1 := helem i hi
    rw [hc] at h1
    obtain ⟨b, hb⟩ : ∃ b, el[i]? = some b := ⟨el[i]'(by omega), List.getElem?_eq_getElem (by omega)⟩
    rw [hb] at h1
    obtain ⟨ce, hce, hte⟩ := Option.bind_eq_some_iff.1 h1
    have hb1 : b.1 = .agg (zs[i].map fun z => .lit (.int k z)) := by
      have := congrArg (·[i]?) eE
      simpa [hb, hi] using this.symm
    have hcs := ints_of_struct (p := b.2) hE hf hc (by rw [← hb1]; exact hte)
    obtain ⟨_, hl, hcc⟩ := World.cells?_some hce
    have hj : j < fs.size := by
      have := (List.getElem?_eq_some_iff.1 hv).1
      rw [← hcs, hl] at this
      exact this
    rw [hcc j hj, hcs, hv]
  obtain ⟨R, oR, sR⟩ := a
  obtain rfl : sR = none := by
    have hl0 : 0 < (zs[0].map fun z => Value.int k z).length := by
      have h1 := helem 0 hz
      rw [hc] at h1
      obtain ⟨b, hb⟩ : ∃ b, el[0]? = some b := ⟨el[0]'(by omega), List.getElem?_eq_getElem (by omega)⟩
      rw [hb] at h1
      obtain ⟨ce, hce, hte⟩ := Option.bind_eq_some_iff.1 h1
      have hb1 : b.1 = .agg (zs[0].map fun z => .lit (.int k z)) := by
        have := congrArg (·[0]?) eE
        simpa [hb, hz] using this.symm
      have hcs := ints_of_struct (p := b.2) hE hf hc (by rw [← hb1]; exact hte)
      obtain ⟨_, hl, _⟩ := World.cells?_some hce
      rw [← hcs, hl]; exact h0
    have h00 := hrange 0 hz 0 _ (List.getElem?_eq_getElem hl0)
    have : (Addr.add (Addr.add ⟨R, oR, sR⟩ (0 * fs.size)) 0) = ⟨R, oR, sR⟩ := by simp [Addr.add]
    rw [this] at h00
    exact cell_spot h00
  refine ⟨R, oR, cap, ?_, fun i hi j v hj => ?_⟩
  · rw [World.var?_cell hg hvar 0, ← Array.getElem?_toList, hcs]
    rfl
  · rw [List.getD_eq_getElem?_getD, List.getElem?_eq_getElem hi, Option.getD_some] at hj
    have := hrange i hi j v hj
    rw [Addr.add_lit, Addr.add_lit] at this
    exact this
def foldZ : List (List Int) := foldT.map fun x => [x.1, x.2.1, x.2.2.1, x.2.2.2]
theorem fold_laid : (Rows.laid_pouch_fold_spans : DataW Unit) = .slice (foldZ.map fun r => .agg (r.map fun z => .lit (.int .i32 z))) [] := by kernel_rfl
theorem fold_reads {W : World} (h : VarReads Tryd.prog W "pouch/fold.spans" Rows.laid_pouch_fold_spans) : FoldTab W := by
  rw [fold_laid] at h
  obtain ⟨b, o, c, h1, h2⟩ := rows_tab h (by kernel_rfl) (by kernel_rfl) Tryd.underlying89 Tryd.underlying91 (fun j f hj => by
      match j, hj with
      | 0, hj => simp at hj; subst hj; exact ⟨Tryd.underlying21, rfl, by kernel_rfl⟩
      | 1, hj => simp at hj; subst hj; exact ⟨Tryd.underlying21, rfl, by kernel_rfl⟩
      | 2, hj => simp at hj; subst hj; exact ⟨Tryd.underlying21, rfl, by kernel_rfl⟩
      | 3, hj => simp at hj; subst hj; exact ⟨Tryd.underlying21, rfl, by kernel_rfl⟩
      | j + 4, hj => simp at hj) (by kernel_rfl) (by decide) (by decide)
  refine ⟨b, o, c, h1, fun i hi => ?_⟩
  have := h2 i hi
  have e : (foldZ.getD i []).map (fun z => Value.int .i32 z) = spF (foldSp i) := by
    have : ∀ i : Fin 17, (foldZ.getD i.val []) = [(foldSp i.val).1, (foldSp i.val).2.1, (foldSp i.val).2.2.1, (foldSp i.val).2.2.2] := by decide
    have := this ⟨i, hi⟩
    rw [show foldZ.getD i [] = _ from this]; rfl
  rw [e] at this
  exact this
end Go.Proofs.YtdghfagipheabaaDoor

-- alias Tryd
namespace Go.Proofs.YtdghfagipheabaaDoor
open Go.Shelf Go.RowKit Go.Pw Go.Vc Go.Cs Go.Lib
set_option maxRecDepth 100000
set_option linter.unusedVariables false
/-- A variable that is a slice of strings, laid: its cells. -/
theorem texts_tab {P : Program} {w : World} {name : String} {g : Nat} {tS tE : TypeId} {zs : List (List UInt8)} {rest : List (DataW Unit)}
    (h : VarReads P w name (.slice (zs.map fun z => .lit (.string z)) rest)) (hn : P.globalNamed name = some g) (hy : (P.globals[g]?).map (·.type) = some tS)
    (hS : P.underlying tS = some (.slice tE)) (hE : P.underlying tE = some .string)
    (hc : P.cellsOf tE = 1) (hz : 0 < zs.length) : ∃ b o c, w.cell? ⟨g, 0, none⟩ = some (.slice (some ⟨b, o, none⟩) zs.length c) ∧ b < w.heap.size ∧ At w b o (zs.map sv) := by
  obtain ⟨g', t, cs, fuel, p, hg, hty, hvar, hd⟩ := h
  obtain rfl := Option.some.inj (hn.symm.trans hg)
  obtain rfl := Option.some.inj (hy.symm.trans hty)
  rcases DataW.trod_slice hS hd with ⟨_, hx⟩ | ⟨a, len, cap, el, rs, m, rfl, hcs, hx, _, hlc, _, hel, helem, hsp, _⟩
  · cases hx
  have hx1 := congrArg Prod.fst hx
  simp only [DataW.slice.injEq] at hx1
  obtain ⟨eE, eR⟩ := hx1
  have hlen : len = zs.length := by
    have := congrArg List.length eE
    simp at this
    omega
  subst hlen
  have hrange : ∀ i (hi : i < zs.length), w.cell? (a.add i) = some (sv zs[i]) := by
    intro i hi
    have h1 := helem i hi
    rw [hc, Nat.mul_one] at h1
    obtain ⟨b, hb⟩ : ∃ b, el[i]? = some b := ⟨el[i]'(by omega), List.getElem?_eq_getElem (by omega)⟩
    rw [hb] at h1
    obtain ⟨ce, hce, hte⟩ := Option.bind_eq_some_iff.1 h1
    have hb1 : b.1 = .lit (.string zs[i]) := by
      have := congrArg (·[i]?) eE
      simpa [hb, hi] using this.symm
    obtain ⟨s, e, gg, _⟩ := DataW.trod_string hE hte
    have hs : s.data.toList = zs[i] := by
      have := congrArg Prod.fst gg
      rw [hb1] at this
      first | (simpa using this.symm) | (simpa using this)
    obtain ⟨_, hl, hcc⟩ := World.cells?_some hce
    have := hcc 0 (by omega)
    rw [e] at this
    have e0 : (a.add i).add 0 = a.add i := by simp [Addr.add]
    rw [e0] at this
    rw [this, ← hs]; rfl
  obtain ⟨R, oR, sR⟩ := a
  obtain rfl : sR = none := by
    have h00 := hrange 0 hz
    have : (Addr.add ⟨R, oR, sR⟩ 0) = ⟨R, oR, sR⟩ := by simp [Addr.add]
    rw [this] at h00
    exact cell_spot h00
  refine ⟨R, oR, cap, ?_, ?_, fun i v hi => ?_⟩
  · rw [World.var?_cell hg hvar 0, ← Array.getElem?_toList, hcs]
    rfl
  · exact cell_lt (hrange 0 hz)
  · rw [List.getElem?_map] at hi
    obtain ⟨x, hx, rfl⟩ := Option.map_eq_some_iff.1 hi
    obtain ⟨hi2, rfl⟩ := List.getElem?_eq_some_iff.1 hx
    have := hrange i hi2
    rw [Addr.add_lit] at this
    exact this
theorem roles_laid : (Rows.laid_pouch_box_roles : DataW Unit) = .slice (rolesL.map fun z => .lit (.string z)) [] := by kernel_rfl
theorem roles_reads {W : World} (h : VarReads Tryd.prog W "pouch/box.roles" Rows.laid_pouch_box_roles) : RolesTab W := by
  rw [roles_laid] at h
  exact texts_tab h (by kernel_rfl) (by kernel_rfl) Tryd.underlying51 Tryd.underlying9 (by kernel_rfl) (by decide)
end Go.Proofs.YtdghfagipheabaaDoor
