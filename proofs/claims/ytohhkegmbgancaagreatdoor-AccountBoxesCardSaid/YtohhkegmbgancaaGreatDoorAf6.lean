/- Helper text of this claim: Af6: lemmas and contracts that the proved statement rests on; no conditions of its own. -/
import Derived.Test.YtohhkegmbgancaaGreatDoorAf5
-- alias Tryz
namespace Go.Proofs.YtohhkegmbgancaaGreatDoor
open Go.Shelf Go.RowKit Go.Pw Go.Vc Go.Cs Go.Lib
set_option linter.unusedVariables false
set_option maxRecDepth 100000
section
variable {w : World}
def op8 (id : Int) : Opr := ⟨8, 0, id, 0, [], [], [], zD, [], [], [], 0, 0, -1⟩
theorem bop8 (id : Int) (w : World) : (Instr.build 28 [(0, .int .i64 8), (2, .int .i64 id), (13, .int .i64 (-1))].toArray).run Tryz.prog w = .ok (.agg (opC ⟨nSl, nSl, nSl⟩ (op8 id)).toArray) w := by
  simp [Instr.build, Instr.fill, go_sem, Tryz.runUnderlying28, opC, op8, dgC, zD, str_nil']
theorem fito8 (id : Int) : FitO (op8 id) := fito _ (by simp [op8])
theorem inL_len (l : List Ml) (b : Int) : (inL l b).length ≤ l.length := by
  unfold inL; rw [List.length_map]; exact List.length_filter_le _ _
theorem nil_dec {s : List UInt8} (h : s ≠ []) : decide (str s = (⟨#[]⟩ : ByteArray)) = false := decide_eq_false fun q => h (by have := congrArg L q; rwa [L_str] at this)
set_option maxHeartbeats 16000000 in
theorem lw_Boxes42 {v : Value} (l : List Opr) (id : Int) (hv : RowOp w v l) (hl : l.length ≤ 1000000000000) (hf : ∀ o ∈ l, FitO o) (hE : BEnv w) :
    Calls Tryz.prog 4 #[v, .int .i64 id] w fun e w' => e = .returned (.bool true) ∧ Keeps w w' none_ := by
  have hv0 := hv
  obtain ⟨lv, hlv, hr, hop⟩ := hv
  have hlen : lv.length = l.length := by rw [← hlv, List.length_map]
  obtain ⟨a, cap, rfl, hr⟩ := hr
  refine calls_of_vc (args := [.slice a lv.length cap, .int .i64 id]) Tryz.func4 rfl (Nat.le_of_ble_eq_true rfl) ?_; refine Sat.go hmix ?_; conv => whnf
  refine CallS.of (Tryz.call7 _ _) (lw_small42 (w := w) hE) ?_
  rintro e w1 ⟨rfl, k1⟩
  refine ⟨_, rfl, ?_⟩; (first | refine Then.go hmix ?_ | refine Sat.go hmix ?_ | refine ResK.go ?_ | skip); conv => whnf
  refine KGO ?_
  refine CallS.of (Tryz.call8 _ _) (lw_few42 (w := w1) l (hv0.keep k1) hl hf) ?_
  rintro e w2 ⟨⟨q, rfl, hq⟩, k2⟩
  have K2 := k1.trans0 k2
  refine ⟨_, rfl, ?_⟩; (first | refine Then.go hmix ?_ | refine Sat.go hmix ?_ | refine ResK.go ?_ | skip); conv => whnf
  cases q with
  | false =>
    refine KGO ?_
    exact ⟨rfl, K2⟩
  | true =>
  have h40 : lv.length ≤ 40 := by rw [hlen]; exact hq rfl
  clear hq
  refine KGO ?_
  refine CallS.of (Tryz.call9 _ _) (ac_New (w := w2) (hE.keep K2)) ?_
  rintro e w5 ⟨h0, rfl, st0, k5⟩
  have K5 := K2.trans0 k5
  have z5 := K5.size
  refine ⟨_, rfl, ?_⟩; (first | refine Then.go hmix ?_ | refine Sat.go hmix ?_ | refine ResK.go ?_ | skip); conv => whnf
  refine KGO ?_
  have v6 := VarK.new w5 36 (accC h0 newA)
  refine Store.fresh (vs := accC h0 newA) (by rfl) rfl (flat_of (by rfl)) ?_
  have a_b6 := at_fresh w5 36 (accC h0 newA)
  have k_w6 : Keeps w5 (w5.alloc (.cells (List.toArray (accC h0 newA)) 36)) none_ := (Keeps.refl _ _).alloc _
  have z_w6 : (w5.alloc (.cells (List.toArray (accC h0 newA)) 36)).heap.size = w5.heap.size + 1 := by simp
  generalize w5.alloc (.cells (List.toArray (accC h0 newA)) 36) = w6 at *
  generalize hs_b6 : w5.heap.size = b6 at *
  have st0 := st0.keep k_w6
  have K6 := K5.trans0 k_w6
  have hb6 : w.heap.size ≤ b6 := by omega
  refine KGO ?_
  refine Loop.intro (ι := FlI) (fun p => [(0, .slice a lv.length cap), (1, .int .i64 id), (5, .bool true), (6, .pointer (some ⟨b6, 0, none⟩)), (7, .int .i64 (p.i : Nat))])
    (fun p wr => Keeps w wr none_ ∧ p.i ≤ lv.length ∧ GoodP p.A ∧ StabA wr p.h p.A ∧ VarK wr b6 36 (accC p.h p.A)) (fun p => lv.length - p.i) ⟨0, newA, h0⟩ ⟨rfl, rfl, rfl, rfl, rfl, trivial⟩ ⟨K6, Nat.zero_le _, good_new, st0, v6⟩ ?_
  rintro ⟨i, A, h⟩ gg wr ⟨hK, hi, gA, stA, vA⟩
  dsimp only at hi gA stA vA ⊢
  clear st0 v6 a_b6
  (first | refine Then.go hmix ?_ | refine Sat.go hmix ?_ | refine ResK.go ?_ | skip); conv => whnf
  by_cases hlt : i < lv.length
  · obtain ⟨gb, o, rfl, hgb, hat⟩ := hr (by omega)
    have hat := at_mono hat hK
    have kr : Keeps wr wr none_ := Keeps.refl _ _
    have hO := hop lv[i] (List.getElem_mem hlt)
    have hfo := hf lv[i].2 (by rw [← hlv]; exact List.mem_map_of_mem (List.getElem_mem hlt))
    have haA := vA.at
    refine KGO ?_
    have fA := fit_of gA
    have hAt : A.st ≤ 1099511627776 := by have := gA.top; unfold M40 at this; omega
    have hopat : At wr gb (o + i * 45) (opC lv[i].1 lv[i].2) := at_row (enc := opC') hat (fun _ => rfl) hlt
    refine Draw.cut (ι := Nat × Hd) (fun p => [(0, .slice (some ⟨gb, o, none⟩) lv.length cap), (1, .int .i64 id), (5, .bool true), (6, .pointer (some ⟨b6, 0, none⟩)), (7, .int .i64 (i : Nat)), (8, .pointer (some ⟨p.1, 0, none⟩))]) (fun p u => Keeps wr u none_ ∧ VarK u p.1 36 (accC p.2 (applyA A lv[i].2).1) ∧ StabA u p.2 (applyA A lv[i].2).1 ∧ wr.heap.size ≤ p.1) ?_ ?_
    · have kd : Keeps wr wr.drew none_ := (Keeps.refl wr none_).drew
      refine Draw.ways (fun u => Keeps wr u none_) (fun _ => true) [[0, 1, 2, 3, 4, 5, 6, 7, 8, 9, 10, 11, 12, 13], [0, 1, 2, 3, 4, 10, 5, 6, 7, 8, 9, 11, 12, 13]] (by decide +kernel) kd ?_
      intro L' hL'
      simp only [List.mem_cons, List.not_mem_nil, or_false] at hL'
      rcases hL' with rfl | rfl
      · refine KGO ?_
        refine HeldW (by rfl) (by rfl) hopat (fun _ hu => hu) (by rfl) ?_
        refine KGO ?_
        refine CallS.of (Tryz.call10 _ _) (ac_Apply (w := wr.drew) (stA.keep kd).read fA hAt gA.sasc (hO.keep (hK.trans0 kd)) hfo (hE.keep (hK.trans0 kd))) ?_
        rintro e w5 ⟨h', rfl, st', k5⟩
        have J5 : Keeps wr w5 none_ := kd.trans0 k5
        refine ⟨_, rfl, ?_⟩; (first | refine Then.go hmix ?_ | refine Sat.go hmix ?_ | refine ResK.go ?_ | skip); conv => whnf
        refine ⟨J5, ?_⟩
        refine KGO ?_
        have a_b6 := at_fresh w5 36 (zAcc')
        have v_b6 := VarK.new w5 36 (zAcc')
        have k_w6 : Keeps w5 (w5.alloc (.cells (List.toArray (zAcc')) 36)) none_ := (Keeps.refl _ _).alloc _
        have z_w6 : (w5.alloc (.cells (List.toArray (zAcc')) 36)).heap.size = w5.heap.size + 1 := by simp
        generalize w5.alloc (.cells (List.toArray (zAcc')) 36) = w6 at *
        generalize hs_b6 : w5.heap.size = b6 at *
        have r_w6 : Keeps w6 w6 none_ := Keeps.refl _ _
        have J6 := J5.trans0 k_w6
        have z5 := J5.size
        refine ⟨J6, ?_⟩
        refine KGO ?_
        refine Store.varK (accC h' (applyA A lv[i].2).1) v_b6 (by rfl) rfl (flat_of (by rfl)) fun w7 v7 k7 => ?_
        have J7 : Keeps wr w7 none_ := keeps_new J6 k7 (by omega)
        have st7 := (st'.keep k_w6).step v_b6 k7
        refine ⟨J7, ?_⟩
        refine KGO ?_
        exact ⟨(b6, h'), ⟨rfl, rfl, rfl, rfl, rfl, rfl, trivial⟩, J7, v7, st7, by dsimp only; omega⟩
      · refine KGO ?_
        refine HeldW (by rfl) (by rfl) hopat (fun _ hu => hu) (by rfl) ?_
        refine KGO ?_
        have a_b6 := at_fresh wr.drew 36 (zAcc')
        have v_b6 := VarK.new wr.drew 36 (zAcc')
        have k_w6 : Keeps wr.drew (wr.drew.alloc (.cells (List.toArray (zAcc')) 36)) none_ := (Keeps.refl _ _).alloc _
        have z_w6 : (wr.drew.alloc (.cells (List.toArray (zAcc')) 36)).heap.size = wr.drew.heap.size + 1 := by simp
        generalize wr.drew.alloc (.cells (List.toArray (zAcc')) 36) = w6 at *
        generalize hs_b6 : wr.drew.heap.size = b6 at *
        have r_w6 : Keeps w6 w6 none_ := Keeps.refl _ _
        have J6 : Keeps wr w6 none_ := kd.trans0 k_w6
        have z5 := kd.size
        refine ⟨J6, ?_⟩
        refine KGO ?_
        refine CallS.of (Tryz.call10 _ _) (ac_Apply (w := w6) (stA.keep J6).read fA hAt gA.sasc (hO.keep (hK.trans0 J6)) hfo (hE.keep (hK.trans0 J6))) ?_
        rintro e w5 ⟨h', rfl, st', k5⟩
        have J5 : Keeps wr w5 none_ := J6.trans0 k5
        have v6 := v_b6.keep0 k5
        refine ⟨_, rfl, ?_⟩; (first | refine Then.go hmix ?_ | refine Sat.go hmix ?_ | refine ResK.go ?_ | skip); conv => whnf
        refine ⟨J5, ?_⟩
        refine KGO ?_
        refine Store.varK (accC h' (applyA A lv[i].2).1) v6 (by rfl) rfl (flat_of (by rfl)) fun w7 v7 k7 => ?_
        have J7 : Keeps wr w7 none_ := keeps_new J5 k7 (by omega)
        have st7 := st'.step v6 k7
        refine ⟨J7, ?_⟩
        refine KGO ?_
        exact ⟨(b6, h'), ⟨rfl, rfl, rfl, rfl, rfl, rfl, trivial⟩, J7, v7, st7, by dsimp only; omega⟩
    rintro ⟨b8, h'⟩ g8 w8 ⟨K8, v8, st8, hb8⟩
    dsimp only at v8 st8 hb8 ⊢
    have gB := good_apply gA lv[i].2
    have vA := vA.keep0 K8
    have a8 := v8.at
    have kr8 : Keeps w8 w8 none_ := Keeps.refl _ _
    (first | refine Then.go hmix ?_ | refine Sat.go hmix ?_ | refine ResK.go ?_ | skip); conv => whnf
    refine KGO ?_
    refine Store.varK (accC h' (applyA A lv[i].2).1) vA (by rfl) rfl (flat_of (by rfl)) fun w19 v19 k19 => ?_
    refine KGO ?_
    exact ⟨⟨i + 1, (applyA A lv[i].2).1, h'⟩, ⟨rfl, rfl, rfl, rfl, v_int (by simp), trivial⟩, ⟨keeps_new (hK.trans0 K8) k19 (by omega), by dsimp only; omega, gB, st8.step vA k19, v19⟩, by dsimp only; omega⟩
  clear hr hop hlv hv0 hf hlen h40
  have fA := fit_of gA
  have hAt : A.st ≤ 1099511627776 := by have := gA.top; unfold M40 at this; omega
  obtain ⟨lx, hlx, hmx, hox⟩ := stA.read.m
  have hll : lx.length = A.mails.length := by rw [← hlx, List.length_map]
  have hml : lx.length ≤ 4096 := by rw [hll]; exact gA.ml
  have hmm : ∀ j (hj : j < lx.length), lx[j].m ∈ A.mails := fun j hj => by rw [← hlx]; exact List.mem_map_of_mem (List.getElem_mem hj)
  obtain ⟨ma, mc, hMe, hmr⟩ := hmx
  injection hMe with e1 e2 e3
  have hcl : accC h A = [.slice h.B.a h.B.n h.B.c, .slice ma lx.length mc, .slice h.S.a h.S.n h.S.c, .string (str A.active), .slice h.N.a h.N.n h.N.c, .int .i64 A.nm, .int .i64 A.nb, .int .i64 A.st] := by
    unfold accC
    rw [e1, e2, e3]
  have a6o : At wr b6 0 [.slice h.B.a h.B.n h.B.c, .slice ma lx.length mc, .slice h.S.a h.S.n h.S.c, .string (str A.active), .slice h.N.a h.N.n h.N.c, .int .i64 A.nm, .int .i64 A.nb, .int .i64 A.st] := by
    have := vA.at
    rw [hcl] at this
    exact this
  have fml : A.mails.length ≤ 1000000 := by omega
  have fmb : ∀ m ∈ A.mails, m.boxes.length ≤ 1000000 := fun m hm => by have := fA.mb m hm; omega
  have gfit := gA.fit
  refine KGO ?_
  -- every message is in its mailboxes
  refine Loop.intro (ι := Nat) (fun j => [(1, .int .i64 id), (5, .bool true), (6, .pointer (some ⟨b6, 0, none⟩)), (11, .int .i64 (j : Nat))])
    (fun j w7 => Keeps wr w7 none_ ∧ j ≤ lx.length) (fun j => lx.length - j) 0 ⟨rfl, rfl, rfl, rfl, trivial⟩ ⟨Keeps.refl _ _, Nat.zero_le _⟩ ?_
  rintro j g7 w7 ⟨k7, hj⟩
  (first | refine Then.go hmix ?_ | refine Sat.go hmix ?_ | refine ResK.go ?_ | skip); conv => whnf
  refine KGO ?_
  by_cases hjt : j < lx.length
  · obtain ⟨ga, oa, rfl, hga, hata⟩ := hmr (by omega)
    have hmj := hmm j hjt
    have hxo := (hox _ (List.getElem_mem hjt)).keep k7
    refine KGO ?_
    generalize lx[j] = x at *
    obtain ⟨xm, ⟨xa, xn, xc⟩, xf⟩ := x
    obtain ⟨ba, bc, hbe, hbr⟩ := hxo.b
    injection hbe with e4 e5 e6
    dsimp only at e4 e5 e6 hbr hmj
    subst e4; subst e5; subst e6
    have hfm := gfit xm hmj
    have hbn : 0 < xm.boxes.length := List.length_pos_iff.2 hfm.ne
    have hbm := fmb xm hmj
    refine Store.fresh (vs := mrC ⟨xm, ⟨xa, xm.boxes.length, xc⟩, xf⟩) (by rfl) rfl (flat_of (by rfl)) ?_
    have a_b12 := at_fresh w7 42 (mrC ⟨xm, ⟨xa, xm.boxes.length, xc⟩, xf⟩)
    have k_w8 : Keeps w7 (w7.alloc (.cells (List.toArray (mrC ⟨xm, ⟨xa, xm.boxes.length, xc⟩, xf⟩)) 42)) none_ := (Keeps.refl _ _).alloc _
    have z_w8 : (w7.alloc (.cells (List.toArray (mrC ⟨xm, ⟨xa, xm.boxes.length, xc⟩, xf⟩)) 42)).heap.size = w7.heap.size + 1 := by simp
    generalize w7.alloc (.cells (List.toArray (mrC ⟨xm, ⟨xa, xm.boxes.length, xc⟩, xf⟩)) 42) = w8 at *
    generalize hs_b12 : w7.heap.size = b12 at *
    have J8 := k7.trans0 k_w8
    have a12 : At w8 b12 0 (.int .i64 xm.id :: (dgC xm.blob ++ [.slice xa xm.boxes.length xc, .slice xf.a xf.n xf.c, .int .i64 xm.at_, .int .i64 xm.size, .int .i64 xm.mod])) := a_b12
    clear a_b12
    have kr8 : Keeps w8 w8 none_ := Keeps.refl _ _
    refine KGO ?_
    refine Loop.intro (ι := Nat) (fun k => [(1, .int .i64 id), (5, .bool true), (6, .pointer (some ⟨b6, 0, none⟩)), (11, .int .i64 (j : Nat)), (12, .pointer (some ⟨b12, 0, none⟩)), (13, .int .i64 (k : Nat))])
      (fun k w9 => Keeps w8 w9 none_ ∧ k ≤ xm.boxes.length) (fun k => xm.boxes.length - k) 0 ⟨rfl, rfl, rfl, rfl, rfl, rfl, trivial⟩ ⟨Keeps.refl _ _, Nat.zero_le _⟩ ?_
    rintro k g9 w9 ⟨k9, hk⟩
    clear kr8
    have a6p := at_mono a6o (J8.trans0 k9)
    have a12p := at_mono a12 k9
    have kr9 : Keeps w9 w9 none_ := Keeps.refl _ _
    (first | refine Then.go hmix ?_ | refine Sat.go hmix ?_ | refine ResK.go ?_ | skip); conv => whnf
    refine KGO ?_
    by_cases hkt : k < xm.boxes.length
    · obtain ⟨gx, ox, rfl, hgx, hatx⟩ := hbr (by omega)
      have hcx := at_int (at_mono hatx (k_w8.trans0 k9)) hkt
      have hbi := List.getElem_mem hkt
      have hful := nil_dec (full_in gA hmj hbi)
      have hin := (in_iff gA hmj xm.boxes[k]).2 hbi
      generalize xm.boxes[k] = bx at *
      have K9 := hK.trans0 (J8.trans0 k9)
      refine KGO ?_
      refine Draw.held (fun u => Keeps w9 u none_) (fun _ => true) (by decide +kernel) (Keeps.refl _ _).drew ?_
      refine KGO ?_
      have N9 := J8.trans0 k9
      refine CallS.of (Tryz.call15 _ _) (bx_Full (w := w9.drew) A.boxes bx (by have := fA.bl; omega) fA.bs (stA.read.keep N9.drew).b (hE.keep K9.drew)) ?_
      rintro e w10 ⟨rfl, k10⟩
      generalize fullL A.boxes bx = ff at *
      have J10 : Keeps w9 w10 none_ := (Keeps.refl w9 none_).drew.trans0 k10
      refine ⟨_, rfl, ?_⟩; (first | refine Then.go hmix ?_ | refine Sat.go hmix ?_ | refine ResK.go ?_ | skip); conv => whnf
      refine ⟨J10, ?_⟩
      refine KGO ?_
      have hIn := ac_In (w := w10) (h := h) (A := A) bx (stA.read.keep (N9.trans0 J10)).m fml fmb
      rw [hcl] at hIn
      refine CallS.of (Tryz.call17 _ _) hIn ?_
      rintro e w11 ⟨v11, rfl, o11, k11⟩
      obtain ⟨a11, c11, rfl⟩ := own_shape o11
      have J11 := J10.trans0 k11
      refine ⟨_, rfl, ?_⟩; (first | refine Then.go hmix ?_ | refine Sat.go hmix ?_ | refine ResK.go ?_ | skip); conv => whnf
      refine ⟨J11, ?_⟩
      refine KGO ?_
      refine CallS.of (Tryz.call16 _ _) (rf_Has (w := w11) (inL A.mails bx) xm.id (own_rowO o11) (by have := inL_len A.mails bx; omega)) ?_
      rintro e w12 ⟨rfl, k12⟩
      rw [decide_eq_true (show xm.id ∈ inL A.mails bx from hin)]
      have J12 := J11.trans0 k12
      refine ⟨_, rfl, ?_⟩; (first | refine Then.go hmix ?_ | refine Sat.go hmix ?_ | refine ResK.go ?_ | skip); conv => whnf
      refine ⟨J12, ?_⟩
      refine KGO ?_
      exact ⟨k + 1, ⟨rfl, rfl, rfl, rfl, rfl, v_int (by simp), trivial⟩, ⟨k9.trans0 J12, by omega⟩, by dsimp only; omega⟩
    · refine KGO ?_
      exact ⟨j + 1, ⟨rfl, rfl, rfl, v_int (by simp), trivial⟩, ⟨J8.trans0 k9, by omega⟩, by dsimp only; omega⟩
  have a6 := at_mono vA.at k7
  have hMA := hd_len stA.read
  have kr7 : Keeps w7 w7 none_ := Keeps.refl _ _
  clear a6o
  refine KGO ?_
  refine CallS.of (Tryz.call17 _ _) (ac_In (w := w7) id (stA.read.keep k7).m fml fmb) ?_
  rintro e w8 ⟨v14, rfl, o14, k8⟩
  obtain ⟨a14, c14, rfl⟩ := own_shape o14
  have J8 : Keeps wr w8 none_ := k7.trans0 k8
  have K8 := hK.trans0 J8
  have a6 := at_mono a6 k8
  have r14 : RowI w8 (.slice a14 (inL A.mails id).length c14) (inL A.mails id) := own_rowO o14
  have kr8 : Keeps w8 w8 none_ := Keeps.refl _ _
  clear kr7
  refine ⟨_, rfl, ?_⟩; (first | refine Then.go hmix ?_ | refine Sat.go hmix ?_ | refine ResK.go ?_ | skip); conv => whnf
  refine KGO ?_
  refine RunV.of (bop8 _ _) ?_
  refine KGO ?_
  refine CallS.of (Tryz.call10 _ _) (ac_Apply (w := w8) (stA.read.keep J8) fA hAt gA.sasc ⟨rowO_nil _, rowO_nil _, rowO_nil _⟩ (fito8 id) (hE.keep K8)) ?_
  rintro e w9 ⟨h', rfl, st9, k9⟩
  have gB := good_apply gA (op8 id)
  have hD : (applyA A (op8 id)).2.2 = 0 → DropP A (applyA A (op8 id)).1 id := fun h => drop_says gA rfl h
  generalize (applyA A (op8 id)).1 = B at *
  generalize (applyA A (op8 id)).2.1 = n at *
  generalize (applyA A (op8 id)).2.2 = e at *
  have fB := fit_of gB
  refine ⟨_, rfl, ?_⟩; (first | refine Then.go hmix ?_ | refine Sat.go hmix ?_ | refine ResK.go ?_ | skip); conv => whnf
  refine KGO ?_
  refine Store.fresh (vs := accC h' B) (by rfl) rfl (flat_of (by rfl)) ?_
  have a_b15 := at_fresh w9 36 (accC h' B)
  have k_w10 : Keeps w9 (w9.alloc (.cells (List.toArray (accC h' B)) 36)) none_ := (Keeps.refl _ _).alloc _
  have z_w10 : (w9.alloc (.cells (List.toArray (accC h' B)) 36)).heap.size = w9.heap.size + 1 := by simp
  generalize w9.alloc (.cells (List.toArray (accC h' B)) 36) = w10 at *
  generalize hs_b15 : w9.heap.size = b15 at *
  have L10 := k9.trans0 k_w10
  have K10 := K8.trans0 L10
  have a6 := at_mono a6 L10
  have sB := (st9.keep k_w10).read
  have r14 := r14.keep L10
  have hMB := hd_len sB
  have kr10 : Keeps w10 w10 none_ := Keeps.refl _ _
  clear kr8 st9
  by_cases he : e = 0
  rotate_left
  · refine KGO ?_
    exact ⟨rfl, K10⟩
  obtain ⟨hDl, hDn, hDf, hDe⟩ := hD he
  have hDn : inL B.mails id = [] := hDn
  subst he
  refine KGO ?_
  refine CallS.of (Tryz.call17 _ _) (ac_In (w := w10) id sB.m (by have := fB.ml; omega) (fun m hm => by have := fB.mb m hm; omega)) ?_
  rintro e w11 ⟨v11, rfl, o11, k11⟩
  obtain ⟨a11, c11, rfl⟩ := own_shape o11
  rw [hDn]
  have K11 := K10.trans0 k11
  have a15 := at_mono a_b15 k11
  have kr11 : Keeps w11 w11 none_ := Keeps.refl _ _
  clear a_b15 kr10
  refine ⟨_, rfl, ?_⟩; (first | refine Then.go hmix ?_ | refine Sat.go hmix ?_ | refine ResK.go ?_ | skip); conv => whnf
  refine KGO ?_
  refine CallS.of (Tryz.call15 _ _) (bx_Full (w := w11) B.boxes id (by have := fB.bl; omega) fB.bs (sB.keep k11).b (hE.keep K11)) ?_
  rintro e w12 ⟨rfl, k12⟩
  rw [hDf]
  have K12 := K11.trans0 k12
  have J12 := k11.trans0 k12
  have a15 := at_mono a15 k12
  have a6 := at_mono a6 J12
  have sB := sB.keep J12
  have r14 := r14.keep J12
  clear kr11
  refine ⟨_, rfl, ?_⟩; (first | refine Then.go hmix ?_ | refine Sat.go hmix ?_ | refine ResK.go ?_ | skip); conv => whnf
  refine KGO ?_
  have N12 : Keeps wr w12 none_ := (J8.trans0 L10).trans0 J12
  have a6o : At w12 b6 0 [.slice h.B.a h.B.n h.B.c, .slice ma lx.length mc, .slice h.S.a h.S.n h.S.c, .string (str A.active), .slice h.N.a h.N.n h.N.c, .int .i64 A.nm, .int .i64 A.nb, .int .i64 A.st] := by
    rw [hcl] at a6
    exact a6
  clear a6
  have kr12 : Keeps w12 w12 none_ := Keeps.refl _ _
  refine Loop.intro (ι := Nat) (fun j => [(1, .int .i64 id), (5, .bool true), (6, .pointer (some ⟨b6, 0, none⟩)), (14, .slice a14 (inL A.mails id).length c14), (15, .pointer (some ⟨b15, 0, none⟩)), (18, .int .i64 (j : Nat))])
    (fun j wj => Keeps w12 wj none_ ∧ j ≤ lx.length) (fun j => lx.length - j) 0 ⟨rfl, rfl, rfl, rfl, rfl, rfl, trivial⟩ ⟨Keeps.refl _ _, Nat.zero_le _⟩ ?_
  clear hj k7 hjt
  rintro j gj wj ⟨kj, hj⟩
  clear kr12
  (first | refine Then.go hmix ?_ | refine Sat.go hmix ?_ | refine ResK.go ?_ | skip); conv => whnf
  refine KGO ?_
  by_cases hjt : j < lx.length
  rotate_left
  · refine KGO ?_
    exact ⟨rfl, K12.trans0 kj⟩
  obtain ⟨ga, oa, rfl, hga, hata⟩ := hmr (by omega)
  have hata := at_mono hata (N12.trans0 kj)
  have hmj := hmm j hjt
  have hxo := (hox _ (List.getElem_mem hjt)).keep (N12.trans0 kj)
  have krj : Keeps wj wj none_ := Keeps.refl _ _
  refine KGO ?_
  generalize lx[j] = x at *
  obtain ⟨xm, ⟨xa, xn, xc⟩, xf⟩ := x
  have hxn := RowO.len hxo.b
  dsimp only at hxn hmj
  subst hxn
  obtain ⟨nn, hfn, hyes, hnot⟩ := hDe xm hmj
  have hfn : findL B.mails xm.id = some nn := hfn
  have hbm := fA.mb xm hmj
  have hin := in_iff gA hmj id
  refine Store.fresh (vs := mrC ⟨xm, ⟨xa, xm.boxes.length, xc⟩, xf⟩) (by rfl) rfl (flat_of (by rfl)) ?_
  have a_b19 := at_fresh wj 42 (mrC ⟨xm, ⟨xa, xm.boxes.length, xc⟩, xf⟩)
  have k_w14 : Keeps wj (wj.alloc (.cells (List.toArray (mrC ⟨xm, ⟨xa, xm.boxes.length, xc⟩, xf⟩)) 42)) none_ := (Keeps.refl _ _).alloc _
  have z_w14 : (wj.alloc (.cells (List.toArray (mrC ⟨xm, ⟨xa, xm.boxes.length, xc⟩, xf⟩)) 42)).heap.size = wj.heap.size + 1 := by simp
  generalize wj.alloc (.cells (List.toArray (mrC ⟨xm, ⟨xa, xm.boxes.length, xc⟩, xf⟩)) 42) = w14 at *
  generalize hs_b19 : wj.heap.size = b19 at *
  have J14 := kj.trans0 k_w14
  have kr14 : Keeps w14 w14 none_ := Keeps.refl _ _
  clear krj
  refine KGO ?_
  refine CallS.of (Tryz.call11 _ _) (ac_Find (w := w14) xm.id (sB.keep J14) (by have := fB.ml; omega) (fun m hm => by have := fB.mb m hm; omega)) ?_
  rintro e w15 ⟨y, rfl, hy, hyo, k15⟩
  rw [hfn] at hy ⊢
  dsimp only [Option.isSome, Option.getD] at hy ⊢
  rw [← hy] at hyes hnot
  obtain ⟨ym, ⟨ya, yn, yc⟩, yf⟩ := y
  have hyn := RowO.len hyo.b
  dsimp only at hyn hy hyes hnot
  subst hyn
  have hbm2 := fB.mb ym (by rw [hy]; exact (find_id hfn).1)
  refine ⟨_, rfl, ?_⟩; (first | refine Then.go hmix ?_ | refine Sat.go hmix ?_ | refine ResK.go ?_ | skip); conv => whnf
  refine KGO ?_
  refine Store.fresh (vs := mrC ⟨ym, ⟨ya, ym.boxes.length, yc⟩, yf⟩) (by rfl) rfl (flat_of (by rfl)) ?_
  have a_b20 := at_fresh w15 42 (mrC ⟨ym, ⟨ya, ym.boxes.length, yc⟩, yf⟩)
  have k_w16 : Keeps w15 (w15.alloc (.cells (List.toArray (mrC ⟨ym, ⟨ya, ym.boxes.length, yc⟩, yf⟩)) 42)) none_ := (Keeps.refl _ _).alloc _
  have z_w16 : (w15.alloc (.cells (List.toArray (mrC ⟨ym, ⟨ya, ym.boxes.length, yc⟩, yf⟩)) 42)).heap.size = w15.heap.size + 1 := by simp
  generalize w15.alloc (.cells (List.toArray (mrC ⟨ym, ⟨ya, ym.boxes.length, yc⟩, yf⟩)) 42) = w16 at *
  generalize hs_b20 : w15.heap.size = b20 at *
  have J16 := J14.trans0 (k15.trans0 k_w16)
  have a19 : At w16 b19 0 (.int .i64 xm.id :: (dgC xm.blob ++ [.slice xa xm.boxes.length xc, .slice xf.a xf.n xf.c, .int .i64 xm.at_, .int .i64 xm.size, .int .i64 xm.mod])) := at_mono a_b19 (k15.trans0 k_w16)
  have hyo := hyo.keep k_w16
  have hxo := hxo.keep (k_w14.trans0 (k15.trans0 k_w16))
  have kr16 : Keeps w16 w16 none_ := Keeps.refl _ _
  clear kr14 a_b19
  refine KGO ?_
  refine CallS.of (Tryz.call16 _ _) (rf_Has (w := w16) (inL A.mails id) xm.id (r14.keep J16) (by have := inL_len A.mails id; omega)) ?_
  rintro e w17 ⟨rfl, k17⟩
  have J17 := J16.trans0 k17
  have a19 := at_mono a19 k17
  have a20 : At w17 b20 0 (.int .i64 ym.id :: (dgC ym.blob ++ [.slice ya ym.boxes.length yc, .slice yf.a yf.n yf.c, .int .i64 ym.at_, .int .i64 ym.size, .int .i64 ym.mod])) := at_mono a_b20 k17
  have kr17 : Keeps w17 w17 none_ := Keeps.refl _ _
  clear a_b20 kr16
  refine ⟨_, rfl, ?_⟩; (first | refine Then.go hmix ?_ | refine Sat.go hmix ?_ | refine ResK.go ?_ | skip); conv => whnf
  by_cases hwas : id ∈ xm.boxes
  · obtain ⟨hl1, hm1⟩ := hyes hwas
    rw [decide_eq_true (show xm.id ∈ inL A.mails id from hin.2 hwas)]
    clear hin hnot hyes
    refine KGO ?_
    exact ⟨j + 1, ⟨rfl, rfl, rfl, rfl, rfl, v_int (by simp), trivial⟩, ⟨J17, by omega⟩, by dsimp only; omega⟩
  · have hsame := hnot hwas
    rw [decide_eq_false (show ¬ xm.id ∈ inL A.mails id from fun q => hwas (hin.1 q))]
    clear hin hnot hyes
    refine KGO ?_
    refine CallS.of (Tryz.call12 _ _) (rf_SameMail (w := w17) ⟨xm, ⟨xa, xm.boxes.length, xc⟩, xf⟩ ⟨ym, ⟨ya, ym.boxes.length, yc⟩, yf⟩ (hxo.keep k17) (hyo.keep k17) (by dsimp only; omega) (by dsimp only; omega) (by dsimp only; omega) (by dsimp only; omega)) ?_
    rintro e w18 ⟨rfl, k18⟩
    rw [decide_eq_true (show xm = ym from hsame.symm)]
    refine ⟨_, rfl, ?_⟩; (first | refine Then.go hmix ?_ | refine Sat.go hmix ?_ | refine ResK.go ?_ | skip); conv => whnf
    refine KGO ?_
    exact ⟨j + 1, ⟨rfl, rfl, rfl, rfl, rfl, v_int (by simp), trivial⟩, ⟨J17.trans0 k18, by omega⟩, by dsimp only; omega⟩
end
end Go.Proofs.YtohhkegmbgancaaGreatDoor
