/- Helper text of this claim: Cy7: lemmas and contracts that the proved statement rests on; no conditions of its own. -/
import Derived.Test.YtcplagfblmemhaaGCy5
-- alias Try
namespace Go.Proofs.Ytcplagfblmemhaa
set_option linter.unusedVariables false
open Go.Shelf Go.RowKit Go.Pw Go.Vc Go.Cs Go.Lib Go.Cd Go.Cx
set_option linter.unusedVariables false
set_option maxRecDepth 100000
def sm1 : List Chg := [⟨1, 3, 1⟩, ⟨2, 3, 3⟩]
def sm2 : List Chg := [⟨1, 3, 2⟩, ⟨1, 2, 2⟩]
def sm3 : List Chg := [⟨4, 3, 1⟩]
def sm4 : List Chg := [⟨1, 3, 3⟩]
def smK0 : Bk := ⟨5, 2, []⟩
def smK1 : Bk := ⟨6, 2, [sm1]⟩
def smK2 : Bk := ⟨7, 2, [sm1, sm2]⟩
def smK3 : Bk := ⟨8, 2, [sm2, sm4]⟩
theorem sn1 : noteA smK0 6 sm1 = (0, smK1) := by kernel_rfl
theorem sn2 : noteA smK1 7 sm2 = (0, smK2) := by kernel_rfl
theorem sn3 : noteA smK2 9 [] = (17, smK2) := by kernel_rfl
theorem sn4 : noteA smK2 8 sm3 = (1, smK2) := by kernel_rfl
theorem sn5 : noteA smK2 8 sm4 = (0, smK3) := by kernel_rfl
theorem ss1 : sinceA smK2 5 1 = (⟨[3], [2], [], 7⟩, 0) := by kernel_rfl
theorem ss2 : sinceA smK2 6 1 = (⟨[], [2, 3], [], 7⟩, 0) := by kernel_rfl
theorem ss3 : sinceA smK3 5 1 = (⟨[], [], [], 0⟩, 18) := by kernel_rfl
theorem ss4 : sinceA smK3 9 1 = (⟨[], [], [], 0⟩, 17) := by kernel_rfl
theorem ss5 : sinceA smK3 7 0 = (⟨[], [], [], 0⟩, 1) := by kernel_rfl
theorem ss6 : sinceA smK3 6 1 = (⟨[], [2], [3], 8⟩, 0) := by kernel_rfl
theorem sb3 : bytesA smK3 = [2, 6, 2, 6, 1, 3, 2, 1, 2, 2, 3, 1, 3, 3] := by kernel_rfl
theorem sr3 : readA (L (str [2, 6, 2, 6, 1, 3, 2, 1, 2, 2, 3, 1, 3, 3])) = some smK3 := by kernel_rfl
theorem sf3 : firstA smK3 = 6 := by kernel_rfl
theorem smallK2 : ∀ l ∈ smK2.notes, l.length ≤ 1000 := by decide
theorem smallK3 : ∀ l ∈ smK3.notes, l.length ≤ 1000 := by decide
theorem idsK3 : ∀ l ∈ smK3.notes, ∀ c ∈ l, c.id < 9223372036854775808 := by decide
theorem bs2Chg (x y : Chg) (w : World) : (Instr.buildSlice 37 2 [(0, .agg #[.int .i64 x.of, .int .i64 x.id, .int .i64 x.what]), (1, .agg #[.int .i64 y.of, .int .i64 y.id, .int .i64 y.what])].toArray).run Try.prog w = .ok (.slice (some ⟨w.heap.size, 0, none⟩) 2 2) (w.alloc (.cells (List.toArray (chC x ++ chC y)) 48)) := by
  simp [Instr.buildSlice, go_sem, Try.runUnderlying37, chC]
/-- A delta in a variable. -/
structure DvAt (w : World) (db B : Nat) (m c g : Sl) (d : Dlt) : Prop where
  va : VarK w db 40 (dlC m c g d.state)
  om : OwnI w B m.v d.made
  oc : OwnI w B c.v d.changed
  og : OwnI w B g.v d.gone
theorem DvAt.keep0 {w w' : World} {db B : Nat} {m c g : Sl} {d : Dlt} (h : DvAt w db B m c g d) (k : Keeps w w' none_) : DvAt w' db B m c g d := ⟨h.va.keep0 k, own_keep0 h.om k, own_keep0 h.oc k, own_keep0 h.og k⟩
theorem own_note {w w' : World} {B nb B' : Nat} {v : Sl} {hs : List Sl} {k : Bk} {u : Value} {l : List Int} (hb : BkAt w B nb v hs k) (h : OwnI w B' u l) (kk : Keeps w w' (fun q => q = nb ∨ v.v.ownBlock = some q)) : OwnI w' B' u l :=
  own_keep h kk fun q hq e => by
    rcases e with rfl | e
    · exact own_foreignV h hb.var (by decide) hq
    · exact own_own_ne h hb.own (by decide) hq e
theorem DvAt.note {w w' : World} {B nb db B' : Nat} {v : Sl} {hs : List Sl} {k : Bk} {m c g : Sl} {d : Dlt} (hb : BkAt w B nb v hs k) (h : DvAt w db B' m c g d) (kk : Keeps w w' (fun q => q = nb ∨ v.v.ownBlock = some q)) : DvAt w' db B' m c g d :=
  ⟨note_var hb h.va (by decide) (by decide) kk, own_note hb h.om kk, own_note hb h.oc kk, own_note hb h.og kk⟩
theorem own_one {w : World} {B n : Nat} {s : Sl} {l : List Int} (h : OwnI w B s.v l) (hn : l.length = n) (h0 : 0 < n) : ∃ g c, s = ⟨some ⟨g, 0, none⟩, n, c⟩ := by
  have hn2 := own_nS h
  obtain ⟨sa, sn, sc⟩ := s
  have h : OwnI w B (.slice sa sn sc) l := h
  obtain rfl : sn = l.length := hn2
  obtain ⟨g, rfl, _⟩ := own_at h (by omega)
  subst hn
  exact ⟨g, sc, rfl⟩
theorem own_zero {w : World} {B : Nat} {s : Sl} (h : OwnI w B s.v []) : s.n = 0 := own_nS h
section
variable {w : World}
set_option maxHeartbeats 8000000 in
theorem lw_small43 : Calls Try.prog 5 #[] w fun e w' => e = .returned (.bool true) ∧ Keeps w w' none_ := by
  refine calls_of_vc (args := []) Try.func5 rfl (Nat.le_of_ble_eq_true rfl) ?_; refine Sat.go hmix ?_; conv => whnf
  refine CallS.of (Try.call6 _ _) (cx_New 5 2 (by decide)) ?_
  rintro e w1 (⟨hbad, _⟩ | ⟨_, rfl, hb, k1⟩)
  · omega
  refine ⟨_, rfl, ?_⟩; (first | refine Then.go hmix ?_ | refine Sat.go hmix ?_ | refine ResK.go ?_ | skip); conv => whnf
  obtain ⟨nb, hnb⟩ : ∃ nb, w.heap.size = nb := ⟨_, rfl⟩
  rw [hnb] at hb ⊢
  have hb : BkAt w1 nb nb ⟨none, 0, 0⟩ [] smK0 := hb
  refine KGO ?_
  refine CallS.of (Try.call6 _ _) (cx_New (-1) 2 (by decide)) ?_
  rintro e w2 (⟨_, rfl, k2⟩ | ⟨hok, _⟩)
  rotate_left
  · omega
  refine ⟨_, rfl, ?_⟩; (first | refine Then.go hmix ?_ | refine Sat.go hmix ?_ | refine ResK.go ?_ | skip); conv => whnf
  refine KGO ?_
  refine CallS.of (Try.call6 _ _) (cx_New 5 0 (by decide)) ?_
  rintro e w3 (⟨_, rfl, k3⟩ | ⟨hok, _⟩)
  rotate_left
  · omega
  refine ⟨_, rfl, ?_⟩; (first | refine Then.go hmix ?_ | refine Sat.go hmix ?_ | refine ResK.go ?_ | skip); conv => whnf
  refine KGO ?_
  refine CallS.of (Try.call6 _ _) (cx_New 5 257 (by decide)) ?_
  rintro e w4 (⟨_, rfl, k4⟩ | ⟨hok, _⟩)
  rotate_left
  · omega
  refine ⟨_, rfl, ?_⟩; (first | refine Then.go hmix ?_ | refine Sat.go hmix ?_ | refine ResK.go ?_ | skip); conv => whnf
  have K4 := ((k1.trans0 k2).trans0 k3).trans0 k4
  have hb := hb.keep0 ((k2.trans0 k3).trans0 k4)
  clear k1 k2 k3 k4
  refine KGO ?_
  refine RunV.of (build_chg _ _ _ _) ?_
  refine KGO ?_
  refine RunV.of (build_chg _ _ _ _) ?_
  refine KGO ?_
  refine RunV.of (bs2Chg ⟨_, _, _⟩ ⟨_, _, _⟩ _) ?_
  have ka4 : Keeps w4 (w4.alloc (.cells (List.toArray (chC ⟨1, 3, 1⟩ ++ chC ⟨2, 3, 3⟩)) 48)) none_ := (Keeps.refl _ _).alloc _
  have ro4 : RowC (w4.alloc (.cells (List.toArray (chC ⟨1, 3, 1⟩ ++ chC ⟨2, 3, 3⟩)) 48)) (⟨some ⟨w4.heap.size, 0, none⟩, 2, 2⟩ : Sl).v sm1 := ⟨_, 2, rfl, fun _ => ⟨_, 0, rfl, by simp, at_fresh w4 48 (chC ⟨1, 3, 1⟩ ++ chC ⟨2, 3, 3⟩)⟩⟩
  generalize w4.alloc (.cells (List.toArray (chC ⟨1, 3, 1⟩ ++ chC ⟨2, 3, 3⟩)) 48) = w5 at *
  generalize w4.heap.size = ga4 at *
  have K5 := K4.trans0 ka4
  have hb := hb.keep0 ka4
  (first | refine Then.go hmix ?_ | refine Sat.go hmix ?_ | refine ResK.go ?_ | skip); conv => whnf
  have hcall := cx_Note (vl := ⟨some ⟨ga4, 0, none⟩, 2, 2⟩) hb (by have := K5.size; omega) 6 (by decide) (by decide) sm1 ro4 (by decide)
  refine CallS.of (Try.call14 _ _) hcall ?_
  rintro e w6 ⟨rfl, ⟨v6, hs6, hb6⟩, k6⟩
  rw [sn1] at hb6 ⊢
  dsimp only at hb6 ⊢
  refine ⟨_, rfl, ?_⟩; (first | refine Then.go hmix ?_ | refine Sat.go hmix ?_ | refine ResK.go ?_ | skip); conv => whnf
  have K6 := K5.trans k6 (fun q hq e => by
    rcases e with e | e
    · omega
    · have := hb.own.lt q e; omega)
  have hb := hb6
  clear hb6 k6
  refine KGO ?_
  refine RunV.of (build_chg _ _ _ _) ?_
  refine KGO ?_
  refine RunV.of (build_chg _ _ _ _) ?_
  refine KGO ?_
  refine RunV.of (bs2Chg ⟨_, _, _⟩ ⟨_, _, _⟩ _) ?_
  have ka6 : Keeps w6 (w6.alloc (.cells (List.toArray (chC ⟨1, 3, 2⟩ ++ chC ⟨1, 2, 2⟩)) 48)) none_ := (Keeps.refl _ _).alloc _
  have ro6 : RowC (w6.alloc (.cells (List.toArray (chC ⟨1, 3, 2⟩ ++ chC ⟨1, 2, 2⟩)) 48)) (⟨some ⟨w6.heap.size, 0, none⟩, 2, 2⟩ : Sl).v sm2 := ⟨_, 2, rfl, fun _ => ⟨_, 0, rfl, by simp, at_fresh w6 48 (chC ⟨1, 3, 2⟩ ++ chC ⟨1, 2, 2⟩)⟩⟩
  generalize w6.alloc (.cells (List.toArray (chC ⟨1, 3, 2⟩ ++ chC ⟨1, 2, 2⟩)) 48) = w7 at *
  generalize w6.heap.size = ga6 at *
  have K7 := K6.trans0 ka6
  have hb := hb.keep0 ka6
  (first | refine Then.go hmix ?_ | refine Sat.go hmix ?_ | refine ResK.go ?_ | skip); conv => whnf
  have hcall := cx_Note (vl := ⟨some ⟨ga6, 0, none⟩, 2, 2⟩) hb (by have := K7.size; omega) 7 (by decide) (by decide) sm2 ro6 (by decide)
  refine CallS.of (Try.call14 _ _) hcall ?_
  rintro e w8 ⟨rfl, ⟨v8, hs8, hb8⟩, k8⟩
  rw [sn2] at hb8 ⊢
  dsimp only at hb8 ⊢
  refine ⟨_, rfl, ?_⟩; (first | refine Then.go hmix ?_ | refine Sat.go hmix ?_ | refine ResK.go ?_ | skip); conv => whnf
  have K8 := K7.trans k8 (fun q hq e => by
    rcases e with e | e
    · omega
    · have := hb.own.lt q e; omega)
  have hb := hb8
  clear hb8 k8
  refine KGO ?_
  have hcall := cx_Note (vl := ⟨none, 0, 0⟩) hb (by have := K8.size; omega) 9 (by decide) (by decide) [] ⟨none, 0, rfl, fun h => absurd h (by decide)⟩ (by decide)
  refine CallS.of (Try.call14 _ _) hcall ?_
  rintro e w9 ⟨rfl, ⟨v9, hs9, hb9⟩, k9⟩
  rw [sn3] at hb9 ⊢
  dsimp only at hb9 ⊢
  refine ⟨_, rfl, ?_⟩; (first | refine Then.go hmix ?_ | refine Sat.go hmix ?_ | refine ResK.go ?_ | skip); conv => whnf
  have K9 := K8.trans k9 (fun q hq e => by
    rcases e with e | e
    · omega
    · have := hb.own.lt q e; omega)
  have hb := hb9
  clear hb9 k9
  refine KGO ?_
  refine RunV.of (build_chg _ _ _ _) ?_
  refine KGO ?_
  refine RunV.of (bs1Chg ⟨_, _, _⟩ _) ?_
  have ka9 : Keeps w9 (w9.alloc (.cells (List.toArray (chC ⟨4, 3, 1⟩)) 48)) none_ := (Keeps.refl _ _).alloc _
  have ro9 : RowC (w9.alloc (.cells (List.toArray (chC ⟨4, 3, 1⟩)) 48)) (⟨some ⟨w9.heap.size, 0, none⟩, 1, 1⟩ : Sl).v sm3 := ⟨_, 1, rfl, fun _ => ⟨_, 0, rfl, by simp, at_fresh w9 48 (chC ⟨4, 3, 1⟩)⟩⟩
  generalize w9.alloc (.cells (List.toArray (chC ⟨4, 3, 1⟩)) 48) = w10 at *
  generalize w9.heap.size = ga9 at *
  have K10 := K9.trans0 ka9
  have hb := hb.keep0 ka9
  (first | refine Then.go hmix ?_ | refine Sat.go hmix ?_ | refine ResK.go ?_ | skip); conv => whnf
  have hcall := cx_Note (vl := ⟨some ⟨ga9, 0, none⟩, 1, 1⟩) hb (by have := K10.size; omega) 8 (by decide) (by decide) sm3 ro9 (by decide)
  refine CallS.of (Try.call14 _ _) hcall ?_
  rintro e w11 ⟨rfl, ⟨v11, hs11, hb11⟩, k11⟩
  rw [sn4] at hb11 ⊢
  dsimp only at hb11 ⊢
  refine ⟨_, rfl, ?_⟩; (first | refine Then.go hmix ?_ | refine Sat.go hmix ?_ | refine ResK.go ?_ | skip); conv => whnf
  have K11 := K10.trans k11 (fun q hq e => by
    rcases e with e | e
    · omega
    · have := hb.own.lt q e; omega)
  have hb := hb11
  clear hb11 k11
  refine KGO ?_
  refine CallS.of (Try.call16 _ _) (cx_Since hb smallK2 5 1 (by decide)) ?_
  rintro e w12 ⟨⟨mD, cD, gD, rfl, omD, ocD, ogD⟩, k12⟩
  rw [ss1] at omD ocD ogD ⊢
  dsimp only at omD ocD ogD ⊢
  refine ⟨_, rfl, ?_⟩; (first | refine Then.go hmix ?_ | refine Sat.go hmix ?_ | refine ResK.go ?_ | skip); conv => whnf
  have K12 := K11.trans0 k12
  have hb := hb.keep0 k12
  have vdD := VarK.new w12 40 (dlC mD cD gD 7)
  refine Store.fresh (vs := dlC mD cD gD 7) (by rfl) rfl (flat_of (by rfl)) ?_
  have a_bD := at_fresh w12 40 (dlC mD cD gD 7)
  have k_w13 : Keeps w12 (w12.alloc (.cells (List.toArray (dlC mD cD gD 7)) 40)) none_ := (Keeps.refl _ _).alloc _
  have z_w13 : (w12.alloc (.cells (List.toArray (dlC mD cD gD 7)) 40)).heap.size = w12.heap.size + 1 := by simp
  generalize w12.alloc (.cells (List.toArray (dlC mD cD gD 7)) 40) = w13 at *
  generalize hs_bD : w12.heap.size = bD at *
  have dvD : DvAt w13 bD w11.heap.size mD cD gD ⟨[3], [2], [], 7⟩ := ⟨vdD, own_keep0 omD k_w13, own_keep0 ocD k_w13, own_keep0 ogD k_w13⟩
  clear a_bD vdD omD ocD ogD
  have K13 := K12.trans0 k_w13
  have hb := hb.keep0 k_w13
  refine KGO ?_
  refine CallS.of (Try.call16 _ _) (cx_Since hb smallK2 6 1 (by decide)) ?_
  rintro e w14 ⟨⟨mF, cF, gF, rfl, omF, ocF, ogF⟩, k14⟩
  rw [ss2] at omF ocF ogF ⊢
  dsimp only at omF ocF ogF ⊢
  refine ⟨_, rfl, ?_⟩; (first | refine Then.go hmix ?_ | refine Sat.go hmix ?_ | refine ResK.go ?_ | skip); conv => whnf
  have K14 := K13.trans0 k14
  have hb := hb.keep0 k14
  have dvD := dvD.keep0 k14
  have vdF := VarK.new w14 40 (dlC mF cF gF 7)
  refine Store.fresh (vs := dlC mF cF gF 7) (by rfl) rfl (flat_of (by rfl)) ?_
  have a_bF := at_fresh w14 40 (dlC mF cF gF 7)
  have k_w15 : Keeps w14 (w14.alloc (.cells (List.toArray (dlC mF cF gF 7)) 40)) none_ := (Keeps.refl _ _).alloc _
  have z_w15 : (w14.alloc (.cells (List.toArray (dlC mF cF gF 7)) 40)).heap.size = w14.heap.size + 1 := by simp
  generalize w14.alloc (.cells (List.toArray (dlC mF cF gF 7)) 40) = w15 at *
  generalize hs_bF : w14.heap.size = bF at *
  have dvF : DvAt w15 bF w13.heap.size mF cF gF ⟨[], [2, 3], [], 7⟩ := ⟨vdF, own_keep0 omF k_w15, own_keep0 ocF k_w15, own_keep0 ogF k_w15⟩
  clear a_bF vdF omF ocF ogF
  have K15 := K14.trans0 k_w15
  have hb := hb.keep0 k_w15
  have dvD := dvD.keep0 k_w15
  refine KGO ?_
  refine RunV.of (build_chg _ _ _ _) ?_
  refine KGO ?_
  refine RunV.of (bs1Chg ⟨_, _, _⟩ _) ?_
  have ka15 : Keeps w15 (w15.alloc (.cells (List.toArray (chC ⟨1, 3, 3⟩)) 48)) none_ := (Keeps.refl _ _).alloc _
  have ro15 : RowC (w15.alloc (.cells (List.toArray (chC ⟨1, 3, 3⟩)) 48)) (⟨some ⟨w15.heap.size, 0, none⟩, 1, 1⟩ : Sl).v sm4 := ⟨_, 1, rfl, fun _ => ⟨_, 0, rfl, by simp, at_fresh w15 48 (chC ⟨1, 3, 3⟩)⟩⟩
  generalize w15.alloc (.cells (List.toArray (chC ⟨1, 3, 3⟩)) 48) = w16 at *
  generalize w15.heap.size = ga15 at *
  have K16 := K15.trans0 ka15
  have hb := hb.keep0 ka15
  (first | refine Then.go hmix ?_ | refine Sat.go hmix ?_ | refine ResK.go ?_ | skip); conv => whnf
  have dvD := dvD.keep0 ka15
  have dvF := dvF.keep0 ka15
  have hcall := cx_Note (vl := ⟨some ⟨ga15, 0, none⟩, 1, 1⟩) hb (by have := K16.size; omega) 8 (by decide) (by decide) sm4 ro15 (by decide)
  refine CallS.of (Try.call14 _ _) hcall ?_
  rintro e w17 ⟨rfl, ⟨v17, hs17, hb17⟩, k17⟩
  rw [sn5] at hb17 ⊢
  dsimp only at hb17 ⊢
  refine ⟨_, rfl, ?_⟩; (first | refine Then.go hmix ?_ | refine Sat.go hmix ?_ | refine ResK.go ?_ | skip); conv => whnf
  have K17 := K16.trans k17 (fun q hq e => by
    rcases e with e | e
    · omega
    · have := hb.own.lt q e; omega)
  have dvD := dvD.note hb k17
  have dvF := dvF.note hb k17
  have hb := hb17
  clear hb17 k17
  refine KGO ?_
  refine CallS.of (Try.call16 _ _) (cx_Since hb smallK3 5 1 (by decide)) ?_
  rintro e w18 ⟨⟨mX, cX, gX, rfl, omX, ocX, ogX⟩, k18⟩
  rw [ss3] at omX ocX ogX ⊢
  dsimp only at omX ocX ogX ⊢
  refine ⟨_, rfl, ?_⟩; (first | refine Then.go hmix ?_ | refine Sat.go hmix ?_ | refine ResK.go ?_ | skip); conv => whnf
  have K18 := K17.trans0 k18
  have hb := hb.keep0 k18
  have dvD := dvD.keep0 k18
  have dvF := dvF.keep0 k18
  have vdX := VarK.new w18 40 (dlC mX cX gX 0)
  refine Store.fresh (vs := dlC mX cX gX 0) (by rfl) rfl (flat_of (by rfl)) ?_
  have a_bX := at_fresh w18 40 (dlC mX cX gX 0)
  have k_w19 : Keeps w18 (w18.alloc (.cells (List.toArray (dlC mX cX gX 0)) 40)) none_ := (Keeps.refl _ _).alloc _
  have z_w19 : (w18.alloc (.cells (List.toArray (dlC mX cX gX 0)) 40)).heap.size = w18.heap.size + 1 := by simp
  generalize w18.alloc (.cells (List.toArray (dlC mX cX gX 0)) 40) = w19 at *
  generalize hs_bX : w18.heap.size = bX at *
  have dvX : DvAt w19 bX w17.heap.size mX cX gX ⟨[], [], [], 0⟩ := ⟨vdX, own_keep0 omX k_w19, own_keep0 ocX k_w19, own_keep0 ogX k_w19⟩
  clear a_bX vdX omX ocX ogX
  have K19 := K18.trans0 k_w19
  have hb := hb.keep0 k_w19
  have dvD := dvD.keep0 k_w19
  have dvF := dvF.keep0 k_w19
  refine KGO ?_
  refine CallS.of (Try.call16 _ _) (cx_Since hb smallK3 9 1 (by decide)) ?_
  rintro e w20 ⟨⟨mY, cY, gY, rfl, omY, ocY, ogY⟩, k20⟩
  rw [ss4] at omY ocY ogY ⊢
  dsimp only at omY ocY ogY ⊢
  refine ⟨_, rfl, ?_⟩; (first | refine Then.go hmix ?_ | refine Sat.go hmix ?_ | refine ResK.go ?_ | skip); conv => whnf
  have K20 := K19.trans0 k20
  have hb := hb.keep0 k20
  have dvD := dvD.keep0 k20
  have dvF := dvF.keep0 k20
  have vdY := VarK.new w20 40 (dlC mY cY gY 0)
  refine Store.fresh (vs := dlC mY cY gY 0) (by rfl) rfl (flat_of (by rfl)) ?_
  have a_bY := at_fresh w20 40 (dlC mY cY gY 0)
  have k_w21 : Keeps w20 (w20.alloc (.cells (List.toArray (dlC mY cY gY 0)) 40)) none_ := (Keeps.refl _ _).alloc _
  have z_w21 : (w20.alloc (.cells (List.toArray (dlC mY cY gY 0)) 40)).heap.size = w20.heap.size + 1 := by simp
  generalize w20.alloc (.cells (List.toArray (dlC mY cY gY 0)) 40) = w21 at *
  generalize hs_bY : w20.heap.size = bY at *
  have dvY : DvAt w21 bY w19.heap.size mY cY gY ⟨[], [], [], 0⟩ := ⟨vdY, own_keep0 omY k_w21, own_keep0 ocY k_w21, own_keep0 ogY k_w21⟩
  clear a_bY vdY omY ocY ogY
  have K21 := K20.trans0 k_w21
  have hb := hb.keep0 k_w21
  have dvD := dvD.keep0 k_w21
  have dvF := dvF.keep0 k_w21
  refine KGO ?_
  refine CallS.of (Try.call16 _ _) (cx_Since hb smallK3 7 0 (by decide)) ?_
  rintro e w22 ⟨⟨mZ, cZ, gZ, rfl, omZ, ocZ, ogZ⟩, k22⟩
  rw [ss5] at omZ ocZ ogZ ⊢
  dsimp only at omZ ocZ ogZ ⊢
  refine ⟨_, rfl, ?_⟩; (first | refine Then.go hmix ?_ | refine Sat.go hmix ?_ | refine ResK.go ?_ | skip); conv => whnf
  have K22 := K21.trans0 k22
  have hb := hb.keep0 k22
  have dvD := dvD.keep0 k22
  have dvF := dvF.keep0 k22
  have vdZ := VarK.new w22 40 (dlC mZ cZ gZ 0)
  refine Store.fresh (vs := dlC mZ cZ gZ 0) (by rfl) rfl (flat_of (by rfl)) ?_
  have a_bZ := at_fresh w22 40 (dlC mZ cZ gZ 0)
  have k_w23 : Keeps w22 (w22.alloc (.cells (List.toArray (dlC mZ cZ gZ 0)) 40)) none_ := (Keeps.refl _ _).alloc _
  have z_w23 : (w22.alloc (.cells (List.toArray (dlC mZ cZ gZ 0)) 40)).heap.size = w22.heap.size + 1 := by simp
  generalize w22.alloc (.cells (List.toArray (dlC mZ cZ gZ 0)) 40) = w23 at *
  generalize hs_bZ : w22.heap.size = bZ at *
  have dvZ : DvAt w23 bZ w21.heap.size mZ cZ gZ ⟨[], [], [], 0⟩ := ⟨vdZ, own_keep0 omZ k_w23, own_keep0 ocZ k_w23, own_keep0 ogZ k_w23⟩
  clear a_bZ vdZ omZ ocZ ogZ
  have K23 := K22.trans0 k_w23
  have hb := hb.keep0 k_w23
  have dvD := dvD.keep0 k_w23
  have dvF := dvF.keep0 k_w23
  refine KGO ?_
  refine CallS.of (Try.call11 _ _) (cx_Bytes hb idsK3 smallK3) ?_
  rintro e w24 ⟨rfl, k24⟩
  rw [sb3]
  refine ⟨_, rfl, ?_⟩; (first | refine Then.go hmix ?_ | refine Sat.go hmix ?_ | refine ResK.go ?_ | skip); conv => whnf
  have K24 := K23.trans0 k24
  have hb := hb.keep0 k24
  have dvD := dvD.keep0 k24
  have dvF := dvF.keep0 k24
  refine KGO ?_
  refine CallS.of (Try.call9 _ _) (cx_Read (str [2, 6, 2, 6, 1, 3, 2, 1, 2, 2, 3, 1, 3, 3]) (by decide)) ?_
  rintro e w25 ⟨hR, k25⟩
  rw [sr3] at hR
  obtain ⟨nc, vc, hc, rfl, hnc, hcb⟩ := hR
  refine ⟨_, rfl, ?_⟩; (first | refine Then.go hmix ?_ | refine Sat.go hmix ?_ | refine ResK.go ?_ | skip); conv => whnf
  have K25 := K24.trans0 k25
  have hb := hb.keep0 k25
  have dvD := dvD.keep0 k25
  have dvF := dvF.keep0 k25
  obtain ⟨gD1, cD1, e1⟩ := own_one (n := 1) dvD.om rfl (by decide)
  obtain ⟨gD2, cD2, e2⟩ := own_one (n := 1) dvD.oc rfl (by decide)
  obtain ⟨gF2, cF2, e3⟩ := own_one (n := 2) dvF.oc rfl (by decide)
  have e4 := own_zero dvD.og
  have e5 := own_zero dvF.om
  have e6 := own_zero dvF.og
  obtain ⟨gDa, gDn, gDc⟩ := gD
  obtain ⟨mFa, mFn, mFc⟩ := mF
  obtain ⟨gFa, gFn, gFc⟩ := gF
  subst e1; subst e2; subst e3
  dsimp only at e4 e5 e6
  subst e4; subst e5; subst e6
  have xD : At w25 bD 0 [.slice (some ⟨gD1, 0, none⟩) 1 cD1, .slice (some ⟨gD2, 0, none⟩) 1 cD2, .slice gDa 0 gDc, .int .i64 7] := dvD.va.at
  have xF : At w25 bF 0 [.slice mFa 0 mFc, .slice (some ⟨gF2, 0, none⟩) 2 cF2, .slice gFa 0 gFc, .int .i64 7] := dvF.va.at
  have q25 := Keeps.refl w25 none_
  refine KGO ?_
  refine CallS.of (Try.call16 _ _) (cx_Since hcb smallK3 6 1 (by decide)) ?_
  rintro e w26 ⟨⟨mH, cH, gH, rfl, omH, ocH, ogH⟩, k26⟩
  rw [ss6] at omH ocH ogH ⊢
  dsimp only at omH ocH ogH ⊢
  refine ⟨_, rfl, ?_⟩; (first | refine Then.go hmix ?_ | refine Sat.go hmix ?_ | refine ResK.go ?_ | skip); conv => whnf
  have K26 := K25.trans0 k26
  have hb := hb.keep0 k26
  have hcb := hcb.keep0 k26
  have dvD := dvD.keep0 k26
  have dvF := dvF.keep0 k26
  have vdH := VarK.new w26 40 (dlC mH cH gH 8)
  refine Store.fresh (vs := dlC mH cH gH 8) (by rfl) rfl (flat_of (by rfl)) ?_
  have a_bH := at_fresh w26 40 (dlC mH cH gH 8)
  have k_w27 : Keeps w26 (w26.alloc (.cells (List.toArray (dlC mH cH gH 8)) 40)) none_ := (Keeps.refl _ _).alloc _
  have z_w27 : (w26.alloc (.cells (List.toArray (dlC mH cH gH 8)) 40)).heap.size = w26.heap.size + 1 := by simp
  generalize w26.alloc (.cells (List.toArray (dlC mH cH gH 8)) 40) = w27 at *
  generalize hs_bH : w26.heap.size = bH at *
  have dvH : DvAt w27 bH w25.heap.size mH cH gH ⟨[], [2], [3], 8⟩ := ⟨vdH, own_keep0 omH k_w27, own_keep0 ocH k_w27, own_keep0 ogH k_w27⟩
  clear a_bH vdH omH ocH ogH
  have K27 := K26.trans0 k_w27
  have hb := hb.keep0 k_w27
  have hcb := hcb.keep0 k_w27
  have dvD := dvD.keep0 k_w27
  have dvF := dvF.keep0 k_w27
  refine KGO ?_
  obtain ⟨gH2, cH2, e7⟩ := own_one (n := 1) dvH.oc rfl (by decide)
  obtain ⟨gH3, cH3, e8⟩ := own_one (n := 1) dvH.og rfl (by decide)
  subst e7; subst e8
  clear xD xF
  have xD : At w27 bD 0 [.slice (some ⟨gD1, 0, none⟩) 1 cD1, .slice (some ⟨gD2, 0, none⟩) 1 cD2, .slice gDa 0 gDc, .int .i64 7] := dvD.va.at
  have xF : At w27 bF 0 [.slice mFa 0 mFc, .slice (some ⟨gF2, 0, none⟩) 2 cF2, .slice gFa 0 gFc, .int .i64 7] := dvF.va.at
  have xH : At w27 bH 0 [.slice mH.a mH.n mH.c, .slice (some ⟨gH2, 0, none⟩) 1 cH2, .slice (some ⟨gH3, 0, none⟩) 1 cH3, .int .i64 8] := dvH.va.at
  have aD1 : At w27 gD1 0 [.int .i64 3] := at_of_own dvD.om
  have aD2 : At w27 gD2 0 [.int .i64 2] := at_of_own dvD.oc
  have aF2 : At w27 gF2 0 [.int .i64 2, .int .i64 3] := at_of_own dvF.oc
  have q27 := Keeps.refl w27 none_
  refine KGO ?_
  refine CallS.of (Try.call20 _ _) (cx_First hb) ?_
  rintro e w28 ⟨rfl, k28⟩
  rw [sf3]
  refine ⟨_, rfl, ?_⟩; (first | refine Then.go hmix ?_ | refine Sat.go hmix ?_ | refine ResK.go ?_ | skip); conv => whnf
  have hb := hb.keep0 k28
  refine KGO ?_
  refine CallS.of (Try.call13 _ _) (cx_State hb) ?_
  rintro e w29 ⟨rfl, k29⟩
  refine ⟨_, rfl, ?_⟩; (first | refine Then.go hmix ?_ | refine Sat.go hmix ?_ | refine ResK.go ?_ | skip); conv => whnf
  have hb := hb.keep0 k29
  have k2_ := k28.trans0 k29
  rw [show smK3.state = 8 from rfl]
  refine KGO ?_
  refine CallS.of (Try.call11 _ _) (cx_Bytes hb idsK3 smallK3) ?_
  rintro e w30 ⟨rfl, k30⟩
  rw [sb3]
  refine ⟨_, rfl, ?_⟩; (first | refine Then.go hmix ?_ | refine Sat.go hmix ?_ | refine ResK.go ?_ | skip); conv => whnf
  have k3_ := k2_.trans0 k30
  refine KGO ?_
  exact ⟨ret_bool (decide_eq_true rfl), K27.trans0 k3_⟩
end
end Go.Proofs.Ytcplagfblmemhaa
