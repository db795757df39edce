/- Helper text of this claim: lemmas and contracts that the proved statement rests on; no conditions of its own. -/
import Derived.Test.YtcplagfblmemhaaGreatDoorGBw6
namespace Go.Proofs.YtcplagfblmemhaaGreatDoor
set_option linter.unusedVariables false
set_option maxHeartbeats 8000000
open Go.RowKit Go.Pw Go.Vc Go.Cs Go.Lib
set_option linter.unusedVariables false
set_option maxRecDepth 100000
structure BEnv (w : World) : Prop where
 F : FoldTab w
 T : Tabs w
 R : RolesTab w
theorem BEnv.keep {w w' : World} (h : BEnv w) (k : Kp w w' n_) : BEnv w' := ⟨h.F.keep k, h.T.keep k, h.R.keep k⟩
def SmallB (l : List Bx) : Prop := ∀ b ∈ l, b.name.length ≤ 1000000 ∧ b.role.length ≤ 1000000
section
variable {w w' : World}
theorem zaC {B : Nat} {R : List Bx × Nat} (c : Nat) (h : R = ([], c)) (k : Kp w w' n_) : ∃ v', Ending.returned (.tuple #[.slice none 0 0, .int .i64 (c : Nat)]) = .returned (.tuple #[v', .int .i64 (R.2 : Nat)]) ∧ OwnB w' B v' R.1 ∧ Kp w w' n_ := by
 subst h; exact ⟨_, rfl, World.ownsRow_nil _ _ _ _, k⟩
theorem zey {B : Nat} {R : List Bx × Nat} {v : Value} {m : List Bx} (h : R = (m, 0)) (o : OwnB w' B v m) (k : Kp w w' n_) : ∃ v', Ending.returned (.tuple #[v, .int .i64 0]) = .returned (.tuple #[v', .int .i64 (R.2 : Nat)]) ∧ OwnB w' B v' R.1 ∧ Kp w w' n_ := by
 subst h; exact ⟨_, rfl, o, k⟩
theorem zdM (a b : Int) (s t : ByteArray) (w : World) : (Instr.build 44 [(0, .int .i64 a), (1, .int .i64 b), (2, .string s), (3, .string t)].toArray).run Tryz.prog w = .ok (.agg #[.int .i64 a, .int .i64 b, .string s, .string t]) w := by
 simp [Instr.build, Instr.fill, go_sem, Tryz.runUnderlying44]
theorem zce (b : Bx) (w : World) : (Instr.buildSlice 31 1 [(0, .agg #[.int .i64 b.id, .int .i64 b.up, .string (str b.name), .string (str b.role)])].toArray).run Tryz.prog w = .ok (.slice (some ⟨w.heap.size, 0, none⟩) 1 1) (w.alloc (.cells (boxCells b).toArray 44)) := by
 simp [Instr.buildSlice, go_sem, Tryz.runUnderlying31, boxCells]
theorem zoG {v : Value} (l : List Bx) (up : Int) (nm r : List UInt8) (id : Int) (hv : RowB w v l) (hl : l.length ≤ 1000) (hs : SmallB l) (hn : nm.length ≤ 140737488355328) (hE : BEnv w) :
  Calls Tryz.prog 49 #[v, .int .i64 up, .string (str nm), .string (str r), .int .i64 id] w fun e w' => ∃ v', e = .returned (.tuple #[v', .int .i64 ((addL l up nm r id).2 : Nat)]) ∧ OwnB w' w.heap.size v' (addL l up nm r id).1 ∧ Kp w w' n_ := by
 have hv0 := hv
 obtain ⟨a, cap, rfl, hr⟩ := hv
 refine zaa (args := [.slice a l.length cap, .int .i64 up, .string (str nm), .string (str r), .int .i64 id]) Tryz.func49 rfl NL ?_; refine GW ?_
 rw [show w.alloc (.cells #[.string (str r)] 9) = w.alloc (.cells (List.toArray [.string (str r)]) 9) from rfl]
 have a_b8 := zaq w 9 [.string (str r)]
 have k_w1 : Kp w (w.alloc (.cells (List.toArray [.string (str r)]) 9)) n_ := (Kp.refl _ _).alloc _
 have z_w1 : (w.alloc (.cells (List.toArray [.string (str r)]) 9)).heap.size = w.heap.size + 1 := by simp
 generalize w.alloc (.cells (List.toArray [.string (str r)]) 9) = w1 at *
 generalize hs_b8 : w.heap.size = b8 at *
 refine CallS.of (Tryz.call80 _ _) (zbQ (w := w1) l id (hv0.keep k_w1) (by omega)) ?_
 rintro e w2 ⟨k, q, rfl, hkl, hasc, k2⟩
 have K2 := k_w1.trans0 k2
 have j2 := k2
 refine RT ?_
 refine KGO ?_
 refine CallS.of (Tryz.call81 _ _) (zeF (w := w2) l (hv0.keep K2) hl hs (hE.F.keep K2) (hE.T.keep K2) (hE.R.keep K2)) ?_
 rintro e w3 ⟨rfl, k3⟩
 have K3 := K2.trans0 k3
 have j3 := j2.trans0 k3
 refine RT ?_
 by_cases h1 : rightL l = true
 rotate_left
 ·rw [show rightL l = false by simpa using h1]
  refine KGO ?_
  exact ⟨zaC (R := addL l up nm r id) 1 (by unfold addL; rw [if_pos fun h => h1 h.1]) K3⟩
 rw [h1]
 have hR := (zaX l).1 h1
 obtain ⟨rfl, rfl⟩ := hasc hR.asc
 refine KGO ?_
 refine CallS.of (Tryz.call82 _ _) (zeQ (w := w3) (str nm) (hE.T.keep K3) (by rw [zbd]; omega)) ?_
 rintro e w4 ⟨rfl, k4⟩
 rw [L_str]
 have K4 := K3.trans0 k4
 have j4 := j3.trans0 k4
 refine RT ?_
 by_cases h2 : namedB nm = true
 rotate_left
 ·rw [show namedB nm = false by simpa using h2]
  refine KGO ?_
  exact ⟨zaC (R := addL l up nm r id) 1 (by unfold addL; rw [if_pos fun h => h2 h.2.1]) K4⟩
 rw [h2]
 obtain ⟨rb, ro, rc, hr1, hr2, hr3⟩ := hE.R
 refine KGO ?_
 refine CallS.of (Tryz.call83 _ _) (zdS (w := w4) rolesL r ⟨some ⟨rb, ro, none⟩, rc, rfl, fun _ => ⟨rb, ro, rfl, Nat.lt_of_lt_of_le hr2 K4.size, zaf hr3 K4⟩⟩ (by decide)) ?_
 rintro e w5 ⟨rfl, k5⟩
 have K5 := K4.trans0 k5
 have j5 := j4.trans0 k5
 refine RT ?_
 by_cases h3 : r ∈ rolesL
 rotate_left
 ·rw [decide_eq_false h3]
  refine KGO ?_
  exact ⟨zaC (R := addL l up nm r id) 1 (by unfold addL; rw [if_pos fun h => h3 h.2.2]) K5⟩
 rw [decide_eq_true h3]
 have g1 : ¬ ¬ (rightL l = true ∧ namedB nm = true ∧ r ∈ rolesL) := fun h => h ⟨h1, h2, h3⟩
 by_cases h4 : id < 1
 ·refine KGO ?_
  exact ⟨zaC (R := addL l up nm r id) 6 (by unfold addL; rw [if_neg g1, if_pos (.inl h4)]) K5⟩
 by_cases h5 : 1099511627776 < id
 ·refine KGO ?_
  exact ⟨zaC (R := addL l up nm r id) 6 (by unfold addL; rw [if_neg g1, if_pos (.inr h5)]) K5⟩
 have g2 : ¬ (id < 1 ∨ 1099511627776 < id) := by omega
 by_cases h6 : hasId l id = true
 ·rw [h6]
  refine KGO ?_
  exact ⟨zaC (R := addL l up nm r id) 4 (by unfold addL; rw [if_neg g1, if_neg g2, if_pos (.inl h6)]) K5⟩
 rw [show hasId l id = false by simpa using h6]
 have hcr : w5.cell? ⟨b8, 0, none⟩ = some (.string (str r)) := zao (a_b8 0 _ rfl) j5
 have hu : ∀ (w' : World), Kp w5 w' n_ → Calls Tryz.prog 84 #[.slice a l.length cap, .func (.func 85) #[] #[.pointer (some ⟨b8, 0, none⟩)]] w' fun e w'' => e = .returned (.bool (l.any fun b => decide (b.role = r))) ∧ Kp w' w'' n_ := fun w' k =>
  cf1 (w := w') l 85 (.pointer (some ⟨b8, 0, none⟩)) (fun b => decide (b.role = r)) (hv0.keep (K5.trans0 k)) (by omega) Tryz.call85 (fun b _ w'' k' => zmq b r (zao hcr (k.trans0 k')))
 by_cases h7 : r = []
 ·have hrd : decide (str r = (⟨#[]⟩ : ByteArray)) = true := by rw [h7]; rfl
  have g3 : ¬ (hasId l id = true ∨ r ≠ [] ∧ (l.any fun b => decide (b.role = r)) = true) := by
   rintro (h | ⟨h, _⟩)
   ·exact h6 h
   ·exact h h7
  refine KGO ?_
  ·have K6 := K5
   have j6 := j5
   by_cases h8 : 64 ≤ l.length
   ·refine KGO ?_
    exact ⟨zaC (R := addL l up nm r id) 3 (by unfold addL; rw [if_neg g1, if_neg g2, if_neg g3, if_pos h8]) K6⟩
   refine KGO ?_
   refine CallS.of (Tryz.call86 _ _) (zme (w := w5) l up (hv0.keep K6) (by omega) hR.asc) ?_
   rintro e w7 ⟨rfl, k7⟩
   have K7 := K6.trans0 k7
   have j7 := j6.trans0 k7
   refine RT ?_
   by_cases h9 : up = 0 ∨ hasId l up = true
   rotate_left
   ·rw [decide_eq_false h9]
    refine KGO ?_
    exact ⟨zaC (R := addL l up nm r id) 5 (by unfold addL; rw [if_neg g1, if_neg g2, if_neg g3, if_neg h8, if_pos h9]) K7⟩
   rw [decide_eq_true h9]
   have h9' : up = 0 ∨ ∃ c ∈ l, c.id = up := by rwa [zaw] at h9
   obtain ⟨hd, hd8⟩ := zdI hR h9'
   refine KGO ?_
   refine CallS.of (Tryz.call87 _ _) (zcb (w := w7) l up (hv0.keep K7) hR hd) ?_
   rintro e w8 ⟨rfl, k8⟩
   have K8 := K7.trans0 k8
   have j8 := j7.trans0 k8
   refine RT ?_
   by_cases h10 : 8 ≤ dpt l up
   ·refine KGO ?_
    exact ⟨zaC (R := addL l up nm r id) 10 (by unfold addL; rw [if_neg g1, if_neg g2, if_neg g3, if_neg h8, if_neg (fun h => h h9), if_pos h10]) K8⟩
   refine KGO ?_
   refine CallS.of (Tryz.call88 _ _) (zdV (w := w8) l up nm 0 (hv0.keep K8) (by omega) (hE.F.keep K8) (by have := ((zcr nm).1 h2).2.1; omega) (fun b hb => (hs b hb).1)) ?_
   rintro e w9 ⟨rfl, k9⟩
   have K9 := K8.trans0 k9
   have j9 := j8.trans0 k9
   refine RT ?_
   by_cases h11 : takenL l up nm 0 = true
   ·rw [h11]
    refine KGO ?_
    exact ⟨zaC (R := addL l up nm r id) 4 (by unfold addL; rw [if_neg g1, if_neg g2, if_neg g3, if_neg h8, if_neg (fun h => h h9), if_neg h10, if_pos h11]) K9⟩
   rw [show takenL l up nm 0 = false by simpa using h11]
   have hres : addL l up nm r id = (insL l ⟨id, up, nm, r⟩, 0) := by unfold addL; rw [if_neg g1, if_neg g2, if_neg g3, if_neg h8, if_neg (fun h => h h9), if_neg h10, if_neg h11]
   have hcr9 : w9.cell? ⟨b8, 0, none⟩ = some (.string (str r)) := zao (a_b8 0 _ rfl) j9
   have hwB : b8 ≤ w9.heap.size := by have := K9.size; omega
   have hbig : ∀ {x y : World} {B : Nat}, Kp w9 x n_ → w9.heap.size ≤ B → Kp x y (fun k => B ≤ k) → Kp w9 y n_ := fun h hB k => h.trans k fun q hq e => by omega
   refine KGO ?_
   refine Draw.ways (fun u => Kp w9 u n_) (fun _ => true) [[0, 1, 2, 3, 4, 5, 6, 7, 8, 9, 10, 11], [0, 2, 3, 4, 5, 6, 7, 8, 1, 9, 10, 11]] (by decide +kernel) (Kp.refl _ _).drew ?_
   intro L' hL'
   simp only [List.mem_cons, List.not_mem_nil, or_false] at hL'
   rcases hL' with rfl | rfl
   ·refine KGO ?_
    refine CallS.of (Tryz.call90 _ _) (zea (w := w9.drew) l (hv0.keep K9.drew) (by omega)) ?_
    rintro e w10 ⟨v1, rfl, o1, k10⟩
    obtain ⟨a1, c1, rfl⟩ := zac o1
    have J10 : Kp w9 w10 n_ := (Kp.refl w9 n_).drew.trans0 k10
    refine RT ?_
    refine ⟨J10, ?_⟩
    refine KGO ?_
    refine RunV.of (zdM _ _ _ _ _) ?_
    refine KGO ?_
    refine RunV.of (zce ⟨id, up, nm, r⟩ _) ?_
    have vb := VarK.new w10 44 (boxCells ⟨id, up, nm, r⟩)
    have k11 : Kp w10 (w10.alloc (.cells (boxCells ⟨id, up, nm, r⟩).toArray 44)) n_ := (Kp.refl _ _).alloc _
    have o1 : OwnB (w10.alloc (.cells (boxCells ⟨id, up, nm, r⟩).toArray 44)) w9.heap.size (.slice a1 l.length c1) l := zab o1 k11
    have hne : ∀ g, (Value.slice a1 l.length c1).ownBlock = some g → g ≠ w10.heap.size := fun g hg => by
     have := (World.ownsRow.lt (w := w10) (by assumption) g hg).2
     omega
    have J11 := J10.trans0 k11
    have hBs : w9.heap.size ≤ (w10.alloc (.cells (boxCells ⟨id, up, nm, r⟩).toArray 44)).heap.size := J11.size
    generalize w10.alloc (.cells (boxCells ⟨id, up, nm, r⟩).toArray 44) = w11 at *
    generalize w10.heap.size = vbk at *
    refine ⟨J11, ?_⟩
    refine KGO ?_
    refine CallS.of (Tryz.call89 _ _) (zgC (w := w11) l (idxL l id) ⟨id, up, nm, r⟩ o1 hBs hkl hl vb hne) ?_
    rintro e w12 ⟨v2, rfl, o2, k12⟩
    obtain ⟨a2, c2, rfl⟩ := zac o2
    have J12 := hbig J11 (Nat.le_refl _) k12
    refine RT ?_
    refine ⟨J12, ?_⟩
    refine KGO ?_
    exact ⟨zey hres (zaj o2 hwB) (K9.trans0 J12)⟩
   ·refine KGO ?_
    refine RunV.of (zdM _ _ _ _ _) ?_
    refine KGO ?_
    refine RunV.of (zce ⟨id, up, nm, r⟩ _) ?_
    have vb := VarK.new w9.drew 44 (boxCells ⟨id, up, nm, r⟩)
    have k10 : Kp w9 (w9.drew.alloc (.cells (boxCells ⟨id, up, nm, r⟩).toArray 44)) n_ := (Kp.refl _ _).drew.alloc _
    generalize w9.drew.alloc (.cells (boxCells ⟨id, up, nm, r⟩).toArray 44) = w10 at *
    generalize w9.drew.heap.size = vbk at *
    refine ⟨k10, ?_⟩
    refine KGO ?_
    refine CallS.of (Tryz.call90 _ _) (zea (w := w10) l (hv0.keep (K9.trans0 k10)) (by omega)) ?_
    rintro e w11 ⟨v1, rfl, o1, k11⟩
    obtain ⟨a1, c1, rfl⟩ := zac o1
    have J11 := k10.trans0 k11
    have hlt := vb.lt
    have vb := vb.keep0 k11
    have hne : ∀ g, (Value.slice a1 l.length c1).ownBlock = some g → g ≠ vbk := fun g hg => by
     have := (o1.lt g hg).1
     omega
    refine RT ?_
    refine ⟨J11, ?_⟩
    refine KGO ?_
    refine CallS.of (Tryz.call89 _ _) (zgC (w := w11) l (idxL l id) ⟨id, up, nm, r⟩ o1 k11.size hkl hl vb hne) ?_
    rintro e w12 ⟨v2, rfl, o2, k12⟩
    obtain ⟨a2, c2, rfl⟩ := zac o2
    have J12 := hbig J11 k10.size k12
    refine RT ?_
    refine ⟨J12, ?_⟩
    refine KGO ?_
    exact ⟨zey hres (zaj o2 (Nat.le_trans hwB k10.size)) (K9.trans0 J12)⟩
 ·have hrd : decide (str r = (⟨#[]⟩ : ByteArray)) = false := decide_eq_false fun h => h7 (by have := congrArg L h; rwa [L_str] at this)
  refine KGO ?_
  conv => arg 3; simp [ev, upd]
  refine CallS.of (Tryz.call84 _ _) (hu w5 (Kp.refl _ _)) ?_
  rintro e w6 ⟨rfl, k6⟩
  have K6' := K5.trans0 k6
  have j6' := j5.trans0 k6
  refine RT ?_
  by_cases h7b : (l.any fun b => decide (b.role = r)) = true
  ·rw [h7b]
   refine KGO ?_
   exact ⟨zaC (R := addL l up nm r id) 4 (by unfold addL; rw [if_neg g1, if_neg g2, if_pos (.inr ⟨h7, h7b⟩)]) K6'⟩
  rw [show (l.any fun b => decide (b.role = r)) = false by simpa using h7b]
  have g3 : ¬ (hasId l id = true ∨ r ≠ [] ∧ (l.any fun b => decide (b.role = r)) = true) := by
   rintro (h | ⟨_, h⟩)
   ·exact h6 h
   ·exact h7b h
  refine KGO ?_
  ·have K6 := K6'
   have j6 := j6'
   by_cases h8 : 64 ≤ l.length
   ·refine KGO ?_
    exact ⟨zaC (R := addL l up nm r id) 3 (by unfold addL; rw [if_neg g1, if_neg g2, if_neg g3, if_pos h8]) K6⟩
   refine KGO ?_
   refine CallS.of (Tryz.call86 _ _) (zme (w := w6) l up (hv0.keep K6) (by omega) hR.asc) ?_
   rintro e w7 ⟨rfl, k7⟩
   have K7 := K6.trans0 k7
   have j7 := j6.trans0 k7
   refine RT ?_
   by_cases h9 : up = 0 ∨ hasId l up = true
   rotate_left
   ·rw [decide_eq_false h9]
    refine KGO ?_
    exact ⟨zaC (R := addL l up nm r id) 5 (by unfold addL; rw [if_neg g1, if_neg g2, if_neg g3, if_neg h8, if_pos h9]) K7⟩
   rw [decide_eq_true h9]
   have h9' : up = 0 ∨ ∃ c ∈ l, c.id = up := by rwa [zaw] at h9
   obtain ⟨hd, hd8⟩ := zdI hR h9'
   refine KGO ?_
   refine CallS.of (Tryz.call87 _ _) (zcb (w := w7) l up (hv0.keep K7) hR hd) ?_
   rintro e w8 ⟨rfl, k8⟩
   have K8 := K7.trans0 k8
   have j8 := j7.trans0 k8
   refine RT ?_
   by_cases h10 : 8 ≤ dpt l up
   ·refine KGO ?_
    exact ⟨zaC (R := addL l up nm r id) 10 (by unfold addL; rw [if_neg g1, if_neg g2, if_neg g3, if_neg h8, if_neg (fun h => h h9), if_pos h10]) K8⟩
   refine KGO ?_
   refine CallS.of (Tryz.call88 _ _) (zdV (w := w8) l up nm 0 (hv0.keep K8) (by omega) (hE.F.keep K8) (by have := ((zcr nm).1 h2).2.1; omega) (fun b hb => (hs b hb).1)) ?_
   rintro e w9 ⟨rfl, k9⟩
   have K9 := K8.trans0 k9
   have j9 := j8.trans0 k9
   refine RT ?_
   by_cases h11 : takenL l up nm 0 = true
   ·rw [h11]
    refine KGO ?_
    exact ⟨zaC (R := addL l up nm r id) 4 (by unfold addL; rw [if_neg g1, if_neg g2, if_neg g3, if_neg h8, if_neg (fun h => h h9), if_neg h10, if_pos h11]) K9⟩
   rw [show takenL l up nm 0 = false by simpa using h11]
   have hres : addL l up nm r id = (insL l ⟨id, up, nm, r⟩, 0) := by unfold addL; rw [if_neg g1, if_neg g2, if_neg g3, if_neg h8, if_neg (fun h => h h9), if_neg h10, if_neg h11]
   have hcr9 : w9.cell? ⟨b8, 0, none⟩ = some (.string (str r)) := zao (a_b8 0 _ rfl) j9
   have hwB : b8 ≤ w9.heap.size := by have := K9.size; omega
   have hbig : ∀ {x y : World} {B : Nat}, Kp w9 x n_ → w9.heap.size ≤ B → Kp x y (fun k => B ≤ k) → Kp w9 y n_ := fun h hB k => h.trans k fun q hq e => by omega
   refine KGO ?_
   refine Draw.ways (fun u => Kp w9 u n_) (fun _ => true) [[0, 1, 2, 3, 4, 5, 6, 7, 8, 9, 10, 11], [0, 2, 3, 4, 5, 6, 7, 8, 1, 9, 10, 11]] (by decide +kernel) (Kp.refl _ _).drew ?_
   intro L' hL'
   simp only [List.mem_cons, List.not_mem_nil, or_false] at hL'
   rcases hL' with rfl | rfl
   ·refine KGO ?_
    refine CallS.of (Tryz.call90 _ _) (zea (w := w9.drew) l (hv0.keep K9.drew) (by omega)) ?_
    rintro e w10 ⟨v1, rfl, o1, k10⟩
    obtain ⟨a1, c1, rfl⟩ := zac o1
    have J10 : Kp w9 w10 n_ := (Kp.refl w9 n_).drew.trans0 k10
    refine RT ?_
    refine ⟨J10, ?_⟩
    refine KGO ?_
    refine RunV.of (zdM _ _ _ _ _) ?_
    refine KGO ?_
    refine RunV.of (zce ⟨id, up, nm, r⟩ _) ?_
    have vb := VarK.new w10 44 (boxCells ⟨id, up, nm, r⟩)
    have k11 : Kp w10 (w10.alloc (.cells (boxCells ⟨id, up, nm, r⟩).toArray 44)) n_ := (Kp.refl _ _).alloc _
    have o1 : OwnB (w10.alloc (.cells (boxCells ⟨id, up, nm, r⟩).toArray 44)) w9.heap.size (.slice a1 l.length c1) l := zab o1 k11
    have hne : ∀ g, (Value.slice a1 l.length c1).ownBlock = some g → g ≠ w10.heap.size := fun g hg => by
     have := (World.ownsRow.lt (w := w10) (by assumption) g hg).2
     omega
    have J11 := J10.trans0 k11
    have hBs : w9.heap.size ≤ (w10.alloc (.cells (boxCells ⟨id, up, nm, r⟩).toArray 44)).heap.size := J11.size
    generalize w10.alloc (.cells (boxCells ⟨id, up, nm, r⟩).toArray 44) = w11 at *
    generalize w10.heap.size = vbk at *
    refine ⟨J11, ?_⟩
    refine KGO ?_
    refine CallS.of (Tryz.call89 _ _) (zgC (w := w11) l (idxL l id) ⟨id, up, nm, r⟩ o1 hBs hkl hl vb hne) ?_
    rintro e w12 ⟨v2, rfl, o2, k12⟩
    obtain ⟨a2, c2, rfl⟩ := zac o2
    have J12 := hbig J11 (Nat.le_refl _) k12
    refine RT ?_
    refine ⟨J12, ?_⟩
    refine KGO ?_
    exact ⟨zey hres (zaj o2 hwB) (K9.trans0 J12)⟩
   ·refine KGO ?_
    refine RunV.of (zdM _ _ _ _ _) ?_
    refine KGO ?_
    refine RunV.of (zce ⟨id, up, nm, r⟩ _) ?_
    have vb := VarK.new w9.drew 44 (boxCells ⟨id, up, nm, r⟩)
    have k10 : Kp w9 (w9.drew.alloc (.cells (boxCells ⟨id, up, nm, r⟩).toArray 44)) n_ := (Kp.refl _ _).drew.alloc _
    generalize w9.drew.alloc (.cells (boxCells ⟨id, up, nm, r⟩).toArray 44) = w10 at *
    generalize w9.drew.heap.size = vbk at *
    refine ⟨k10, ?_⟩
    refine KGO ?_
    refine CallS.of (Tryz.call90 _ _) (zea (w := w10) l (hv0.keep (K9.trans0 k10)) (by omega)) ?_
    rintro e w11 ⟨v1, rfl, o1, k11⟩
    obtain ⟨a1, c1, rfl⟩ := zac o1
    have J11 := k10.trans0 k11
    have hlt := vb.lt
    have vb := vb.keep0 k11
    have hne : ∀ g, (Value.slice a1 l.length c1).ownBlock = some g → g ≠ vbk := fun g hg => by
     have := (o1.lt g hg).1
     omega
    refine RT ?_
    refine ⟨J11, ?_⟩
    refine KGO ?_
    refine CallS.of (Tryz.call89 _ _) (zgC (w := w11) l (idxL l id) ⟨id, up, nm, r⟩ o1 k11.size hkl hl vb hne) ?_
    rintro e w12 ⟨v2, rfl, o2, k12⟩
    obtain ⟨a2, c2, rfl⟩ := zac o2
    have J12 := hbig J11 k10.size k12
    refine RT ?_
    refine ⟨J12, ?_⟩
    refine KGO ?_
    exact ⟨zey hres (zaj o2 (Nat.le_trans hwB k10.size)) (K9.trans0 J12)⟩
end
end Go.Proofs.YtcplagfblmemhaaGreatDoor
namespace Go.Vc
set_option linter.unusedVariables false
set_option maxHeartbeats 8000000
open Go Go.Pw
set_option linter.unusedVariables false
theorem zhk {α : Type} (f : α → List Value) (n : Nat) (hf : ∀ x, (f x).length = n) {j : Nat} (hj : j < n) (v : Value) (x : α) : ∀ (l : List α) (k : Nat) (hk : k < l.length), f x = (f l[k]).set j v → (l.flatMap f).set (k * n + j) v = (l.set k x).flatMap f
 | [], k, hk, _ => by simp at hk
 | y :: r, 0, _, h => by
  rw [List.set_cons_zero, List.flatMap_cons, List.flatMap_cons, Nat.zero_mul, Nat.zero_add, List.set_append_left _ _ (by rw [hf]; exact hj)]
  have h : f x = (f y).set j v := h
  rw [h]
 | y :: r, k + 1, hk, h => by
  rw [List.set_cons_succ, List.flatMap_cons, List.flatMap_cons, List.set_append_right _ _ (by rw [hf, Nat.succ_mul]; omega), hf, show (k + 1) * n + j - n = k * n + j by rw [Nat.succ_mul]; omega]
  rw [zhk f n hf hj v x r k (by simpa using hk) h]
theorem Store.atK {P : Program} {t T : TypeId} {w : World} {b i : Nat} {cs : List Value} {v : Value} {K : World → Prop} (h : VarK w b T cs) (hi : i < cs.length) (hs : sizeOfT P t = some 1) (hv : v.cells = #[v] ∧ (∀ cs, v ≠ .agg cs) ∧ ∀ cs, v ≠ .tuple cs)
  (k : ∀ w', VarK w' b T (cs.set i v) → Kp w w' (one_ b) → K w') : Store P t ⟨b, i, none⟩ v w K := by
 have hc : w.cell? ⟨b, i, none⟩ = some cs[i] := by
  have := h.at i _ (List.getElem?_eq_getElem hi)
  rwa [Nat.zero_add] at this
 exact Store.one hs hv hc (h.frozen _) (k _ (h.set i v) ((Kp.refl w (one_ b)).setCell (p := ⟨b, i, none⟩) (.inl rfl) v))
theorem zbm {α : Type} {w w' : World} {B e s g cap : Nat} {cells : List Value} {f : α → List Value} {l : List α} (hf : ∀ x, (f x).length = s) {k j : Nat} (hk : k < l.length) (hj : j < s) {v : Value} {x : α} (hx : f x = (f l[k]).set j v)
  (hB : B ≤ g) (hn : l.length ≤ cap) (hc : cap ≤ maxLen) (hl : cells.length = cap * s) (ht : cells.take (l.length * s) = l.flatMap f) (h : VarK w' g e (cells.set (k * s + j) v)) : w'.ownsRow B e s (.slice (some ⟨g, 0, none⟩) l.length cap) l.length ((l.set k x).flatMap f) := by
 refine zbj hB h hn hc (by rw [List.length_set, hl]) ?_ (by rw [zay f s hf, List.length_set])
 rw [List.take_set, ht]
 exact zhk f s hf hj v x l k hk hx
end Go.Vc
namespace Go.Cs
set_option linter.unusedVariables false
set_option maxHeartbeats 8000000
theorem zmB {l : List Bx} (h : l.Pairwise fun a b => a.id < b.id) {b : Bx} (hb : b ∈ l) (g : Bx → Bx) {k : Nat} (hk : k < l.length) (he : l[k] = b) : l.set k (g b) = l.map fun c => if c.id = b.id then g c else c := by
 apply List.ext_getElem
 ·simp
 ·intro i h1 h2
  rw [List.getElem_set, List.getElem_map]
  have hi : i < l.length := by simpa using h1
  by_cases e : k = i
  ·subst e
   rw [if_pos rfl, he, if_pos rfl]
  ·rw [if_neg e, if_neg]
   intro e2
   have := zcV h (List.getElem_mem hi) hb e2
   rw [← he] at this
   rw [List.pairwise_iff_getElem] at h
   rcases Nat.lt_or_gt_of_ne e with q | q
   ·have := h k i hk hi q; rw [he] at this; omega
   ·have := h i k hi hk q; rw [he] at this; omega
theorem zqz {l : List Bx} (h : l.Pairwise fun a b => a.id < b.id) {b : Bx} {k : Nat} (hk : k < l.length) (he : l[k] = b) : l.take k ++ l.drop (k + 1) = delL l b.id := by
 have hl : l = l.take k ++ b :: l.drop (k + 1) := by
  conv => lhs; rw [← List.take_append_drop k l, List.drop_eq_getElem_cons hk, he]
 have hp := h
 rw [hl, List.pairwise_append] at hp
 obtain ⟨p1, p2, p3⟩ := hp
 obtain ⟨q1, q2⟩ := List.pairwise_cons.1 p2
 unfold delL
 conv => rhs; rw [hl]
 rw [List.filter_append, List.filter_cons_of_neg (by simp), List.filter_eq_self.2 (fun c hc => by have := p3 c hc b (by simp); simp; omega), List.filter_eq_self.2 (fun c hc => by have := q1 c hc; simp; omega)]
end Go.Cs
namespace Go.Proofs.YtcplagfblmemhaaGreatDoor
set_option linter.unusedVariables false
set_option maxHeartbeats 8000000
open Go.RowKit Go.Pw Go.Vc Go.Cs Go.Lib
set_option linter.unusedVariables false
set_option maxRecDepth 100000
section
variable {w w' : World}
theorem zqc {v : Value} (l : List Bx) (id : Int) (nm : List UInt8) (hv : RowB w v l) (hl : l.length ≤ 1000) (hs : SmallB l) (hn : nm.length ≤ 140737488355328) (hE : BEnv w) :
  Calls Tryz.prog 101 #[v, .int .i64 id, .string (str nm)] w fun e w' => ∃ v', e = .returned (.tuple #[v', .int .i64 ((nameL l id nm).2 : Nat)]) ∧ OwnB w' w.heap.size v' (nameL l id nm).1 ∧ Kp w w' n_ := by
 have hv0 := hv
 obtain ⟨a, cap, rfl, hr⟩ := hv
 refine zaa (args := [.slice a l.length cap, .int .i64 id, .string (str nm)]) Tryz.func101 rfl NL ?_; refine GW ?_
 refine CallS.of (Tryz.call81 _ _) (zeF (w := w) l hv0 hl hs hE.F hE.T hE.R) ?_
 rintro e w1 ⟨rfl, k1⟩
 refine RT ?_
 by_cases h1 : rightL l = true
 rotate_left
 ·rw [show rightL l = false by simpa using h1]
  refine KGO ?_
  exact ⟨zaC (R := nameL l id nm) 1 (by unfold nameL; rw [if_pos h1]) k1⟩
 rw [h1]
 have hR := (zaX l).1 h1
 have g1 : ¬ ¬ rightL l = true := fun h => h h1
 refine KGO ?_
 refine CallS.of (Tryz.call80 _ _) (zbQ (w := w1) l id (hv0.keep k1) (by omega)) ?_
 rintro e w2 ⟨k, q, rfl, hkl, hasc, k2⟩
 obtain ⟨rfl, rfl⟩ := hasc hR.asc
 have K2 := k1.trans0 k2
 refine RT ?_
 cases hb : boxOf l id with
 | none =>
  have hno : hasId l id = false := by
   rw [Bool.eq_false_iff]
   exact fun h => by
    obtain ⟨c, hc, he⟩ := (zaw _ _).1 h
    exact zcs.1 hb c hc he
  rw [hno]
  refine KGO ?_
  exact ⟨zaC (R := nameL l id nm) 5 (by unfold nameL; rw [if_neg g1, hb]) K2⟩
 | some b =>
  obtain ⟨hm, rfl⟩ := zdu hb
  rw [(zaw l b.id).2 ⟨b, hm, rfl⟩]
  obtain ⟨hk1, hk2⟩ := zhU hR.asc hm
  generalize idxL l b.id = k at *
  refine KGO ?_
  refine CallS.of (Tryz.call82 _ _) (zeQ (w := w2) (str nm) (hE.T.keep K2) (by rw [zbd]; omega)) ?_
  rintro e w3 ⟨rfl, k3⟩
  rw [L_str]
  have K3 := K2.trans0 k3
  refine RT ?_
  by_cases h2 : namedB nm = true
  rotate_left
  ·rw [show namedB nm = false by simpa using h2]
   refine KGO ?_
   exact ⟨zaC (R := nameL l b.id nm) 1 (by unfold nameL; rw [if_neg g1, hb]; dsimp only; rw [if_pos h2]) K3⟩
  rw [h2]
  obtain ⟨gb, o, rfl, hgb, hat⟩ := hr (by omega)
  refine KGO ?_
  rw [hk2]
  refine CallS.of (Tryz.call88 _ _) (zdV (w := w3) l b.up nm b.id (hv0.keep K3) (by omega) (hE.F.keep K3) (by have := ((zcr nm).1 h2).2.1; omega) (fun b hb => (hs b hb).1)) ?_
  rintro e w4 ⟨rfl, k4⟩
  have K4 := K3.trans0 k4
  refine RT ?_
  by_cases h3 : takenL l b.up nm b.id = true
  ·rw [h3]
   refine KGO ?_
   exact ⟨zaC (R := nameL l b.id nm) 4 (by unfold nameL; rw [if_neg g1, hb]; dsimp only; rw [if_neg (fun h => h h2), if_pos h3]) K4⟩
  rw [show takenL l b.up nm b.id = false by simpa using h3]
  have hres : nameL l b.id nm = (setName l b.id nm, 0) := by unfold nameL; rw [if_neg g1, hb]; dsimp only; rw [if_neg (fun h => h h2), if_neg h3]
  refine KGO ?_
  refine CallS.of (Tryz.call90 _ _) (zea (w := w4) l (hv0.keep K4) (by omega)) ?_
  rintro e w5 ⟨v1, rfl, o1, k5⟩
  have K5 := K4.trans0 k5
  rcases own_blockK o1 with ⟨_, h0⟩ | ⟨g, cap2, cells, rfl, hBg, hvk, hnc, hcm, hcl, htk⟩
  ·omega
  refine RT ?_
  refine KGO ?_
  refine Store.atK hvk (by rw [hcl]; omega) (by rfl) ⟨rfl, by simp, by simp⟩ fun w6 v6 k6 => ?_
  refine KGO ?_
  have K6 : Kp w w6 n_ := K5.trans k6 fun q hq e => by
   have e : q = g := e
   have := K4.size
   omega
  rw [Nat.zero_add] at v6
  have o6 := zbm (w := w5) boxLen (l := l) (k := k) (j := 2) (x := { b with name := nm }) hk1 (by omega) (by rw [hk2]; rfl) hBg hnc hcm hcl htk v6
  rw [zmB hR.asc hm (fun c => { c with name := nm }) hk1 hk2] at o6
  have hsl : (setName l b.id nm).length = l.length := by unfold setName; rw [List.length_map]
  have o7 : OwnB w6 w4.heap.size (.slice (some ⟨g, 0, none⟩) l.length cap2) (setName l b.id nm) := by
   rw [OwnB, hsl]; exact o6
  exact ⟨zey (R := nameL l b.id nm) hres (zaj o7 K4.size) K6⟩
theorem zpy {v : Value} (l : List Bx) (id : Int) (hv : RowB w v l) (hl : l.length ≤ 1000) (hs : SmallB l) (hE : BEnv w) :
  Calls Tryz.prog 103 #[v, .int .i64 id] w fun e w' => ∃ v', e = .returned (.tuple #[v', .int .i64 ((dropL l id).2 : Nat)]) ∧ OwnB w' w.heap.size v' (dropL l id).1 ∧ Kp w w' n_ := by
 have hv0 := hv
 obtain ⟨a, cap, rfl, hr⟩ := hv
 refine zaa (args := [.slice a l.length cap, .int .i64 id]) Tryz.func103 rfl NL ?_; refine GW ?_
 rw [show w.alloc (.cells #[.int .i64 id] 3) = w.alloc (.cells (List.toArray [.int .i64 id]) 3) from rfl]
 have a_b0 := zaq w 3 [.int .i64 id]
 have k_w0 : Kp w (w.alloc (.cells (List.toArray [.int .i64 id]) 3)) n_ := (Kp.refl _ _).alloc _
 have z_w0 : (w.alloc (.cells (List.toArray [.int .i64 id]) 3)).heap.size = w.heap.size + 1 := by simp
 generalize w.alloc (.cells (List.toArray [.int .i64 id]) 3) = w0 at *
 generalize hs_b0 : w.heap.size = b0 at *
 refine CallS.of (Tryz.call81 _ _) (zeF (w := w0) l (hv0.keep k_w0) hl hs (hE.F.keep k_w0) (hE.T.keep k_w0) (hE.R.keep k_w0)) ?_
 rintro e w1 ⟨rfl, j1⟩
 have k1 := k_w0.trans0 j1
 refine RT ?_
 by_cases h1 : rightL l = true
 rotate_left
 ·rw [show rightL l = false by simpa using h1]
  refine KGO ?_
  exact ⟨zaC (R := dropL l id) 1 (by unfold dropL; rw [if_pos h1]) k1⟩
 rw [h1]
 have hR := (zaX l).1 h1
 have g1 : ¬ ¬ rightL l = true := fun h => h h1
 have c1 := zaf a_b0 j1
 refine KGO ?_
 refine CallS.of (Tryz.call80 _ _) (zbQ (w := w1) l id (hv0.keep k1) (by omega)) ?_
 rintro e w2 ⟨k, q, rfl, hkl, hasc, j2⟩
 obtain ⟨rfl, rfl⟩ := hasc hR.asc
 have K2 := k1.trans0 j2
 have J2 := j1.trans0 j2
 refine RT ?_
 by_cases h2 : hasId l id = true
 rotate_left
 ·rw [show hasId l id = false by simpa using h2]
  refine KGO ?_
  exact ⟨zaC (R := dropL l id) 5 (by unfold dropL; rw [if_neg g1, if_pos h2]) K2⟩
 rw [h2]
 have g2 : ¬ ¬ hasId l id = true := fun h => h h2
 obtain ⟨b, hm, rfl⟩ := (zaw _ _).1 h2
 obtain ⟨hk1, hk2⟩ := zhU hR.asc hm
 generalize idxL l b.id = k at *
 refine KGO ?_
 have hc0 : w2.cell? ⟨b0, 0, none⟩ = some (.int .i64 b.id) := zao (a_b0 0 _ rfl) J2
 conv => arg 3; simp [ev, upd]
 refine CallS.of (Tryz.call84 _ _) (cf1 (w := w2) l 154 (.pointer (some ⟨b0, 0, none⟩)) (fun c => decide (c.up = b.id)) (hv0.keep K2) (by omega) Tryz.call154 (fun c _ w'' k' => zpc c b.id (zao hc0 k'))) ?_
 rintro e w3 ⟨rfl, j3⟩
 have K3 := K2.trans0 j3
 refine RT ?_
 by_cases h3 : (l.any fun c => decide (c.up = b.id)) = true
 ·rw [h3]
  refine KGO ?_
  exact ⟨zaC (R := dropL l b.id) 20 (by unfold dropL; rw [if_neg g1, if_neg g2, if_pos h3]) K3⟩
 rw [show (l.any fun c => decide (c.up = b.id)) = false by simpa using h3]
 have hres : dropL l b.id = (delL l b.id, 0) := by unfold dropL; rw [if_neg g1, if_neg g2, if_neg h3]
 refine KGO ?_
 refine CallS.of (Tryz.call90 _ _) (zea (w := w3) l (hv0.keep K3) (by omega)) ?_
 rintro e w4 ⟨v1, rfl, o1, j4⟩
 have K4 := K3.trans0 j4
 obtain ⟨a1, cp1, rfl⟩ := zac o1
 refine RT ?_
 refine KGO ?_
 refine CallS.of (Tryz.call155 _ _) (zpb (w := w4) (B := w3.heap.size) l k o1 j4.size hk1 hl) ?_
 rintro e w5 ⟨v2, rfl, o2, j5⟩
 rw [zqz hR.asc hk1 hk2] at o2
 obtain ⟨a2, cp2, rfl⟩ := zac o2
 refine RT ?_
 refine KGO ?_
 have K5 : Kp w w5 n_ := K4.trans j5 fun q hq e => by
  have := K3.size
  omega
 exact ⟨zey (R := dropL l b.id) hres (zaj o2 (by have := K3.size; have := j1.size; have := J2.size; have := j3.size; omega)) K5⟩
end
end Go.Proofs.YtcplagfblmemhaaGreatDoor
