/- Helper text of this claim: Af4, TabF, Bl7: lemmas and contracts that the proved statement rests on; no conditions of its own. -/
import Derived.Test.YtohhkegmbgancaaGreatDoorGAf0
import Derived.Test.YtohhkegmbgancaaGreatDoorGCw3
import Derived.Test.YtohhkegmbgancaaGreatDoorRows
import Derived.Lib.LaidU8
import Derived.Test.YtohhkegmbgancaaGreatDoorGBw2
import Derived.Test.YtohhkegmbgancaaGreatDoorGVrk
-- alias Tryz
namespace Go.Proofs.YtohhkegmbgancaaGreatDoor
open Go.Shelf Go.RowKit Go.Pw Go.Vc Go.Cs Go.Lib
set_option linter.unusedVariables false
set_option maxRecDepth 100000
section
variable {w : World}
theorem RowOp.keep {w w' : World} {v : Value} {l : List Opr} (h : RowOp w v l) (k : Keeps w w' none_) : RowOp w' v l :=
  let ⟨lv, h1, h2, h3⟩ := h
  ⟨lv, h1, h2.keep k, fun p hp => (h3 p hp).keep k⟩
structure StI where
  i : Nat
  A : Acc
  h : Hd
  m : Int
  b : Int
set_option maxHeartbeats 16000000 in
theorem lw_Stays42 {v : Value} (l : List Opr) (hv : RowOp w v l) (hl : l.length ≤ 1000000000000) (hf : ∀ o ∈ l, FitO o) (hE : BEnv w) :
    Calls Tryz.prog 6 #[v] w fun e w' => e = .returned (.bool true) ∧ Keeps w w' none_ := by
  have hv0 := hv
  obtain ⟨lv, hlv, hr, hop⟩ := hv
  have hlen : lv.length = l.length := by rw [← hlv, List.length_map]
  obtain ⟨a, cap, rfl, hr⟩ := hr
  refine calls_of_vc (args := [.slice a lv.length cap]) Tryz.func6 rfl (Nat.le_of_ble_eq_true rfl) ?_; refine Sat.go hmix ?_; conv => whnf
  refine CallS.of (Tryz.call7 _ _) (lw_small42 (w := w) hE) ?_
  rintro e w1 ⟨rfl, k1⟩
  refine ⟨_, rfl, ?_⟩; (first | refine Then.go hmix ?_ | refine Sat.go hmix ?_ | refine ResK.go ?_ | skip); conv => whnf
  refine KGO ?_
  refine CallS.of (Tryz.call8 _ _) (lw_few42 (w := w1) l (hv0.keep k1) hl hf) ?_
  rintro e w2 ⟨⟨q, rfl, hq⟩, k2⟩
  have K2 := k1.trans0 k2
  refine ⟨_, rfl, ?_⟩; (first | refine Then.go hmix ?_ | refine Sat.go hmix ?_ | refine ResK.go ?_ | skip); conv => whnf
  cases q with
  | false =>
    refine KGO ?_
    exact ⟨rfl, K2⟩
  | true =>
  have h40 : lv.length ≤ 40 := by rw [hlen]; exact hq rfl
  clear hq
  refine KGO ?_
  refine CallS.of (Tryz.call9 _ _) (ac_New (w := w2) (hE.keep K2)) ?_
  rintro e w3 ⟨h0, rfl, st0, k3⟩
  have K3 := K2.trans0 k3
  refine ⟨_, rfl, ?_⟩; (first | refine Then.go hmix ?_ | refine Sat.go hmix ?_ | refine ResK.go ?_ | skip); conv => whnf
  refine KGO ?_
  have v4 := VarK.new w3 36 (accC h0 newA)
  refine Store.fresh (vs := accC h0 newA) (by rfl) rfl (flat_of (by rfl)) ?_
  have a_b4 := at_fresh w3 36 (accC h0 newA)
  have k_w4 : Keeps w3 (w3.alloc (.cells (List.toArray (accC h0 newA)) 36)) none_ := (Keeps.refl _ _).alloc _
  have z_w4 : (w3.alloc (.cells (List.toArray (accC h0 newA)) 36)).heap.size = w3.heap.size + 1 := by simp
  generalize w3.alloc (.cells (List.toArray (accC h0 newA)) 36) = w4 at *
  generalize hs_b4 : w3.heap.size = b4 at *
  have st0 := st0.keep k_w4
  have K4 := K3.trans0 k_w4
  have hb4 : w.heap.size ≤ b4 := by have := K3.size; omega
  refine KGO ?_
  refine Loop.intro (ι := StI) (fun p => [(0, .slice a lv.length cap), (3, .bool true), (4, .pointer (some ⟨b4, 0, none⟩)), (5, .int .i64 p.m), (6, .int .i64 p.b), (7, .int .i64 (p.i : Nat))])
    (fun p wr => Keeps w wr none_ ∧ p.i ≤ lv.length ∧ GoodP p.A ∧ StabA wr p.h p.A ∧ VarK wr b4 36 (accC p.h p.A) ∧ p.m < p.A.nm ∧ p.b < p.A.nb) (fun p => lv.length - p.i) ⟨0, newA, h0, 0, 1⟩ ⟨rfl, rfl, rfl, rfl, rfl, rfl, trivial⟩ ⟨K4, Nat.zero_le _, good_new, st0, v4, (by decide : (0 : Int) < newA.nm), (by decide : (1 : Int) < newA.nb)⟩ ?_
  rintro ⟨i, A, h, mi, bi⟩ gg wr ⟨hK, hi, gA, stA, vA, hmi, hbi⟩
  dsimp only at hi gA stA vA hmi hbi ⊢
  (first | refine Then.go hmix ?_ | refine Sat.go hmix ?_ | refine ResK.go ?_ | skip); conv => whnf
  by_cases hlt : i < lv.length
  rotate_left
  · refine KGO ?_
    exact ⟨rfl, hK⟩
  obtain ⟨gb, o, rfl, hgb, hat⟩ := hr (by omega)
  have hat := at_mono hat hK
  have kr : Keeps wr wr none_ := Keeps.refl _ _
  have hO := hop lv[i] (List.getElem_mem hlt)
  have hfo := hf lv[i].2 (by rw [← hlv]; exact List.mem_map_of_mem (List.getElem_mem hlt))
  have haA := vA.at
  refine KGO ?_
  have fA := fit_of gA
  have hAt : A.st ≤ 1099511627776 := by have := gA.top; unfold M40 at this; omega
  have hopat : At wr gb (o + i * 45) (opC lv[i].1 lv[i].2) := at_row (enc := opC') hat (fun _ => rfl) hlt
  refine Draw.cut (ι := Nat × Hd) (fun p => [(0, .slice (some ⟨gb, o, none⟩) lv.length cap), (3, .bool true), (4, .pointer (some ⟨b4, 0, none⟩)), (5, .int .i64 mi), (6, .int .i64 bi), (7, .int .i64 (i : Nat)), (8, .pointer (some ⟨p.1, 0, none⟩)), (9, .int .i64 (applyA A lv[i].2).2.1), (10, .int .i64 ((applyA A lv[i].2).2.2 : Nat))]) (fun p u => Keeps wr u none_ ∧ VarK u p.1 36 (accC p.2 (applyA A lv[i].2).1) ∧ StabA u p.2 (applyA A lv[i].2).1 ∧ wr.heap.size ≤ p.1) ?_ ?_
  · have kd : Keeps wr wr.drew none_ := (Keeps.refl wr none_).drew
    refine Draw.ways (fun u => Keeps wr u none_) (fun _ => true) [[0, 1, 2, 3, 4, 5, 6, 7, 8, 9, 10, 11, 12, 13], [0, 1, 2, 3, 4, 10, 5, 6, 7, 8, 9, 11, 12, 13]] (by decide +kernel) kd ?_
    intro L' hL'
    simp only [List.mem_cons, List.not_mem_nil, or_false] at hL'
    rcases hL' with rfl | rfl
    · refine KGO ?_
      refine HeldW (by rfl) (by rfl) hopat (fun _ hu => hu) (by rfl) ?_
      refine KGO ?_
      refine CallS.of (Tryz.call10 _ _) (ac_Apply (w := wr.drew) (stA.keep kd).read fA hAt gA.sasc (hO.keep (hK.trans0 kd)) hfo (hE.keep (hK.trans0 kd))) ?_
      rintro e w5 ⟨h', rfl, st', k5⟩
      have J5 : Keeps wr w5 none_ := kd.trans0 k5
      refine ⟨_, rfl, ?_⟩; (first | refine Then.go hmix ?_ | refine Sat.go hmix ?_ | refine ResK.go ?_ | skip); conv => whnf
      refine ⟨J5, ?_⟩
      refine KGO ?_
      have a_b6 := at_fresh w5 36 (zAcc')
      have v_b6 := VarK.new w5 36 (zAcc')
      have k_w6 : Keeps w5 (w5.alloc (.cells (List.toArray (zAcc')) 36)) none_ := (Keeps.refl _ _).alloc _
      have z_w6 : (w5.alloc (.cells (List.toArray (zAcc')) 36)).heap.size = w5.heap.size + 1 := by simp
      generalize w5.alloc (.cells (List.toArray (zAcc')) 36) = w6 at *
      generalize hs_b6 : w5.heap.size = b6 at *
      have r_w6 : Keeps w6 w6 none_ := Keeps.refl _ _
      have J6 := J5.trans0 k_w6
      have z5 := J5.size
      refine ⟨J6, ?_⟩
      refine KGO ?_
      refine Store.varK (accC h' (applyA A lv[i].2).1) v_b6 (by rfl) rfl (flat_of (by rfl)) fun w7 v7 k7 => ?_
      have J7 : Keeps wr w7 none_ := keeps_new J6 k7 (by omega)
      have st7 := (st'.keep k_w6).step v_b6 k7
      refine ⟨J7, ?_⟩
      refine KGO ?_
      exact ⟨(b6, h'), ⟨rfl, rfl, rfl, rfl, rfl, rfl, rfl, rfl, rfl, trivial⟩, J7, v7, st7, by dsimp only; omega⟩
    · refine KGO ?_
      refine HeldW (by rfl) (by rfl) hopat (fun _ hu => hu) (by rfl) ?_
      refine KGO ?_
      have a_b6 := at_fresh wr.drew 36 (zAcc')
      have v_b6 := VarK.new wr.drew 36 (zAcc')
      have k_w6 : Keeps wr.drew (wr.drew.alloc (.cells (List.toArray (zAcc')) 36)) none_ := (Keeps.refl _ _).alloc _
      have z_w6 : (wr.drew.alloc (.cells (List.toArray (zAcc')) 36)).heap.size = wr.drew.heap.size + 1 := by simp
      generalize wr.drew.alloc (.cells (List.toArray (zAcc')) 36) = w6 at *
      generalize hs_b6 : wr.drew.heap.size = b6 at *
      have r_w6 : Keeps w6 w6 none_ := Keeps.refl _ _
      have J6 : Keeps wr w6 none_ := kd.trans0 k_w6
      have z5 := kd.size
      refine ⟨J6, ?_⟩
      refine KGO ?_
      refine CallS.of (Tryz.call10 _ _) (ac_Apply (w := w6) (stA.keep J6).read fA hAt gA.sasc (hO.keep (hK.trans0 J6)) hfo (hE.keep (hK.trans0 J6))) ?_
      rintro e w5 ⟨h', rfl, st', k5⟩
      have J5 : Keeps wr w5 none_ := J6.trans0 k5
      have v6 := v_b6.keep0 k5
      refine ⟨_, rfl, ?_⟩; (first | refine Then.go hmix ?_ | refine Sat.go hmix ?_ | refine ResK.go ?_ | skip); conv => whnf
      refine ⟨J5, ?_⟩
      refine KGO ?_
      refine Store.varK (accC h' (applyA A lv[i].2).1) v6 (by rfl) rfl (flat_of (by rfl)) fun w7 v7 k7 => ?_
      have J7 : Keeps wr w7 none_ := keeps_new J5 k7 (by omega)
      have st7 := st'.step v6 k7
      refine ⟨J7, ?_⟩
      refine KGO ?_
      exact ⟨(b6, h'), ⟨rfl, rfl, rfl, rfl, rfl, rfl, rfl, rfl, rfl, trivial⟩, J7, v7, st7, by dsimp only; omega⟩
  rintro ⟨b8, h'⟩ g8 w8 ⟨K8, v8, st8, hb8⟩
  dsimp only at v8 st8 hb8 ⊢
  have gB := good_apply gA lv[i].2
  have hno := @apply_no A gA lv[i].2
  have hok := @apply_ok A gA lv[i].2
  have hnums := apply_nums gA lv[i].2
  have hm1 := @stays_mail A lv[i].2 gA
  have hm5 := @stays_add A lv[i].2 gA
  have hm2 := @stays_upd A lv[i].2 gA
  have K9 := hK.trans0 K8
  have vA := vA.keep0 K8
  have stA := stA.keep K8
  have hat := at_mono hat K8
  have a4 := vA.at
  have a8 := v8.at
  have fA := fit_of gA
  have hAt := gA.top
  have hA0 := gA.st
  unfold M40 at hAt
  clear haA kr
  generalize (applyA A lv[i].2).1 = B at *
  generalize (applyA A lv[i].2).2.1 = n at *
  generalize (applyA A lv[i].2).2.2 = e at *
  have fB := fit_of gB
  have kr8 : Keeps w8 w8 none_ := Keeps.refl _ _
  (first | refine Then.go hmix ?_ | refine Sat.go hmix ?_ | refine ResK.go ?_ | skip); conv => whnf
  refine KGO ?_
  refine CallS.of (Tryz.call24 _ _) (ac_Right (w := w8) st8.read fB (hE.keep K9)) ?_
  rintro e1 w9 ⟨rfl, k9⟩
  rw [good_right gB]
  have K10 := K9.trans0 k9
  have vA := vA.keep0 k9
  have v8 := v8.keep0 k9
  have stA := stA.keep k9
  have st8 := st8.keep k9
  have hat := at_mono hat k9
  have a4 := vA.at
  have a8 := v8.at
  have kr9 : Keeps w9 w9 none_ := Keeps.refl _ _
  have hst : e = 0 → B.st = A.st + 1 := fun h => (hok h).1
  clear kr8 hok
  refine ⟨_, rfl, ?_⟩; (first | refine Then.go hmix ?_ | refine Sat.go hmix ?_ | refine ResK.go ?_ | skip); conv => whnf
  by_cases he : e = 0
  rotate_left
  · obtain ⟨hBA, hn0⟩ := hno he
    clear hno hm1 hm5 hm2 hst
    refine KGO ?_
    refine CallS.of (Tryz.call21 _ _) (ac_Same (w := w9) stA.read st8.read fA) ?_
    rintro e1 w10 ⟨rfl, k10⟩
    rw [decide_eq_true (show A = B from hBA.symm)]
    have K11 := K10.trans0 k10
    have vA := vA.keep0 k10
    have v8 := v8.keep0 k10
    have st8 := st8.keep k10
    have a4 := vA.at
    have a8 := v8.at
    have kr10 : Keeps w10 w10 none_ := Keeps.refl _ _
    clear kr9
    refine ⟨_, rfl, ?_⟩; (first | refine Then.go hmix ?_ | refine Sat.go hmix ?_ | refine ResK.go ?_ | skip); conv => whnf
    refine KGO ?_
    refine Store.varK (accC h' B) vA (by rfl) rfl (flat_of (by rfl)) fun w19 v19 k19 => ?_
    refine KGO ?_
    exact ⟨⟨i + 1, B, h', mi, bi⟩, ⟨rfl, rfl, rfl, rfl, rfl, v_int (by simp), trivial⟩, ⟨keeps_new K11 k19 (by omega), by dsimp only; omega, gB, (st8).step vA k19, v19, (by dsimp only; omega), (by dsimp only; omega)⟩, by dsimp only; omega⟩
  subst he
  have hst := hst rfl
  clear hno
  by_cases c1 : lv[i].2.kind = 1
  · obtain ⟨hn, hnm, m, hf1, hf2, hf3, hf4, hf5⟩ := hm1 c1 rfl
    clear hm1 hm5 hm2
    subst hn
    have hf1 : findL B.mails A.nm = some m := hf1
    refine KGO ?_
    refine CallS.of (Tryz.call11 _ _) (ac_Find (w := w9) A.nm st8.read (by have := fB.ml; omega) (fun m hm => by have := fB.mb m hm; omega)) ?_
    rintro e1 w10 ⟨y, rfl, hy, hyo, k10⟩
    rw [hf1] at hy ⊢
    dsimp only [Option.isSome, Option.getD] at hy ⊢
    refine ⟨_, rfl, ?_⟩; (first | refine Then.go hmix ?_ | refine Sat.go hmix ?_ | refine ResK.go ?_ | skip); conv => whnf
    refine KGO ?_
    refine Store.fresh (vs := mrC y) (by rfl) rfl (flat_of (by rfl)) ?_
    have a_b11 := at_fresh w10 42 (mrC y)
    have k_w11 : Keeps w10 (w10.alloc (.cells (List.toArray (mrC y)) 42)) none_ := (Keeps.refl _ _).alloc _
    have z_w11 : (w10.alloc (.cells (List.toArray (mrC y)) 42)).heap.size = w10.heap.size + 1 := by simp
    generalize w10.alloc (.cells (List.toArray (mrC y)) 42) = w11 at *
    generalize hs_b11 : w10.heap.size = b11 at *
    have J11 := k10.trans0 k_w11
    have K11 := K10.trans0 J11
    have vA := vA.keep0 J11
    have v8 := v8.keep0 J11
    have st8 := st8.keep J11
    have hat := at_mono hat J11
    have a4 := vA.at
    have a8 := v8.at
    have kr11 : Keeps w11 w11 none_ := Keeps.refl _ _
    have hdy := dg_at a_b11
    have hdo : At w11 gb (o + i * 45 + 7) (dgC lv[i].2.blob) := op_dgo (at_row (enc := opC') hat (fun _ => rfl) hlt)
    rw [← hy] at hf2 hf3 hf4 hf5
    clear kr9 hy hf1
    refine KGO ?_
    refine LoadW (by rfl) (by rfl) hdo (Keeps.refl w11 none_).drew (by rfl) ?_
    (first | refine Then.go hmix ?_ | refine Sat.go hmix ?_ | refine ResK.go ?_ | skip); conv => whnf
    refine KGO ?_
    refine dg_neq _ _ _ _ ?_
    rw [decide_eq_true hf3]
    refine KGO ?_
    refine Store.varK (accC h' B) vA (by rfl) rfl (flat_of (by rfl)) fun w19 v19 k19 => ?_
    refine KGO ?_
    exact ⟨⟨i + 1, B, h', A.nm, bi⟩, ⟨rfl, rfl, rfl, rfl, rfl, v_int (by simp), trivial⟩, ⟨keeps_new (K11.drew) k19 (by omega), by dsimp only; omega, gB, ((st8.keep (Keeps.refl w11 none_).drew)).step vA k19, v19, (by dsimp only; omega), (by dsimp only; omega)⟩, by dsimp only; omega⟩
  by_cases c5 : lv[i].2.kind = 5
  · obtain ⟨hn, hnb, hfull⟩ := hm5 c5 rfl
    clear hm1 hm5 hm2
    subst hn
    have hfd : decide (str (fullL B.boxes A.nb) = (⟨#[]⟩ : ByteArray)) = false := decide_eq_false fun h => hfull (by have := congrArg L h; rwa [L_str] at this)
    refine KGO ?_
    refine CallS.of (Tryz.call15 _ _) (bx_Full (w := w9) B.boxes A.nb (by have := fB.bl; omega) fB.bs st8.read.b (hE.keep K10)) ?_
    rintro e1 w10 ⟨rfl, k10⟩
    generalize fullL B.boxes A.nb = ff at *
    have K11 := K10.trans0 k10
    have vA := vA.keep0 k10
    have v8 := v8.keep0 k10
    have st8 := st8.keep k10
    have hat := at_mono hat k10
    have a4 := vA.at
    have a8 := v8.at
    have kr10 : Keeps w10 w10 none_ := Keeps.refl _ _
    clear kr9 hfull
    refine ⟨_, rfl, ?_⟩; (first | refine Then.go hmix ?_ | refine Sat.go hmix ?_ | refine ResK.go ?_ | skip); conv => whnf
    refine KGO ?_
    refine Store.varK (accC h' B) vA (by rfl) rfl (flat_of (by rfl)) fun w19 v19 k19 => ?_
    refine KGO ?_
    exact ⟨⟨i + 1, B, h', mi, A.nb⟩, ⟨rfl, rfl, rfl, rfl, rfl, v_int (by simp), trivial⟩, ⟨keeps_new K11 k19 (by omega), by dsimp only; omega, gB, (st8).step vA k19, v19, (by dsimp only; omega), (by dsimp only; omega)⟩, by dsimp only; omega⟩
  by_cases c2 : lv[i].2.kind = 2 ∨ lv[i].2.kind = 3
  · obtain ⟨m, hf1, hf2⟩ := hm2 c2 rfl
    clear hm1 hm5 hm2
    have hf1 : findL B.mails lv[i].2.id = some m := hf1
    by_cases c2a : lv[i].2.kind = 2
    · refine KGO ?_
      refine Draw.cut (ι := Nat × Mr) (fun p => [(0, .slice (some ⟨gb, o, none⟩) lv.length cap), (3, .bool true), (4, .pointer (some ⟨b4, 0, none⟩)), (5, .int .i64 mi), (6, .int .i64 bi), (7, .int .i64 (i : Nat)), (8, .pointer (some ⟨b8, 0, none⟩)), (13, .pointer (some ⟨p.1, 0, none⟩)), (14, .bool true)]) (fun p u => Keeps w9 u none_ ∧ VarK u p.1 42 (mrC p.2) ∧ p.2.m = m) ?_ ?_
      · have kd : Keeps w9 w9.drew none_ := (Keeps.refl w9 none_).drew
        have fml : B.mails.length ≤ 100000 := by have := fB.ml; omega
        have fmb : ∀ m ∈ B.mails, m.boxes.length ≤ 1000000 ∧ m.flags.length ≤ 1000000 := fun m hm => by have := fB.mb m hm; omega
        refine Draw.ways (fun u => Keeps w9 u none_) (fun _ => true) [[0, 1, 2, 3, 4, 5, 6, 7, 8, 9, 10, 11, 12], [0, 1, 2, 3, 4, 5, 10, 6, 7, 8, 9, 11, 12]] (by decide +kernel) kd ?_
        intro L' hL'
        simp only [List.mem_cons, List.not_mem_nil, or_false] at hL'
        rcases hL' with rfl | rfl
        · refine KGO ?_
          refine CallS.of (Tryz.call11 _ _) (ac_Find (w := w9.drew) lv[i].2.id (st8.keep kd).read fml fmb) ?_
          rintro e1 w10 ⟨y, rfl, hy, hyo, k10⟩
          rw [hf1] at hy ⊢
          dsimp only [Option.isSome, Option.getD] at hy ⊢
          have J10 := kd.trans0 k10
          have z10 := J10.size
          refine ⟨_, rfl, ?_⟩; (first | refine Then.go hmix ?_ | refine Sat.go hmix ?_ | refine ResK.go ?_ | skip); conv => whnf
          refine ⟨J10, ?_⟩
          refine KGO ?_
          have a_b11 := at_fresh w10 42 (zMl)
          have v_b11 := VarK.new w10 42 (zMl)
          have k_w11 : Keeps w10 (w10.alloc (.cells (List.toArray (zMl)) 42)) none_ := (Keeps.refl _ _).alloc _
          have z_w11 : (w10.alloc (.cells (List.toArray (zMl)) 42)).heap.size = w10.heap.size + 1 := by simp
          generalize w10.alloc (.cells (List.toArray (zMl)) 42) = w11 at *
          generalize hs_b11 : w10.heap.size = b11 at *
          have r_w11 : Keeps w11 w11 none_ := Keeps.refl _ _
          have J11 := J10.trans0 k_w11
          refine ⟨J11, ?_⟩
          refine KGO ?_
          refine Store.varK (mrC y) v_b11 (by rfl) rfl (flat_of (by rfl)) fun w12 v12 k12 => ?_
          have J12 : Keeps w9 w12 none_ := keeps_new J11 k12 (by omega)
          refine ⟨J12, ?_⟩
          refine KGO ?_
          exact ⟨(b11, y), ⟨rfl, rfl, rfl, rfl, rfl, rfl, rfl, rfl, rfl, trivial⟩, J12, v12, hy⟩
        · refine KGO ?_
          have a_b11 := at_fresh w9.drew 42 (zMl)
          have v_b11 := VarK.new w9.drew 42 (zMl)
          have k_w11 : Keeps w9.drew (w9.drew.alloc (.cells (List.toArray (zMl)) 42)) none_ := (Keeps.refl _ _).alloc _
          have z_w11 : (w9.drew.alloc (.cells (List.toArray (zMl)) 42)).heap.size = w9.drew.heap.size + 1 := by simp
          generalize w9.drew.alloc (.cells (List.toArray (zMl)) 42) = w11 at *
          generalize hs_b11 : w9.drew.heap.size = b11 at *
          have r_w11 : Keeps w11 w11 none_ := Keeps.refl _ _
          have z10 := kd.size
          have J11 := kd.trans0 k_w11
          refine ⟨J11, ?_⟩
          refine KGO ?_
          refine CallS.of (Tryz.call11 _ _) (ac_Find (w := w11) lv[i].2.id (st8.keep J11).read fml fmb) ?_
          rintro e1 w10 ⟨y, rfl, hy, hyo, k10⟩
          rw [hf1] at hy ⊢
          dsimp only [Option.isSome, Option.getD] at hy ⊢
          have J10 := J11.trans0 k10
          have v11 := v_b11.keep0 k10
          refine ⟨_, rfl, ?_⟩; (first | refine Then.go hmix ?_ | refine Sat.go hmix ?_ | refine ResK.go ?_ | skip); conv => whnf
          refine ⟨J10, ?_⟩
          refine KGO ?_
          refine Store.varK (mrC y) v11 (by rfl) rfl (flat_of (by rfl)) fun w12 v12 k12 => ?_
          have J12 : Keeps w9 w12 none_ := keeps_new J10 k12 (by omega)
          refine ⟨J12, ?_⟩
          refine KGO ?_
          exact ⟨(b11, y), ⟨rfl, rfl, rfl, rfl, rfl, rfl, rfl, rfl, rfl, trivial⟩, J12, v12, hy⟩
      rintro ⟨b13, y⟩ g13 w12 ⟨J12, v13, hy⟩
      dsimp only at v13 hy ⊢
      have K12 := K10.trans0 J12
      have vA := vA.keep0 J12
      have v8 := v8.keep0 J12
      have st8 := st8.keep J12
      have a4 := vA.at
      have a8 := v8.at
      have a13 := v13.at
      have kr12 : Keeps w12 w12 none_ := Keeps.refl _ _
      rw [← hy] at hf2
      clear kr9 hat hy hf1
      (first | refine Then.go hmix ?_ | refine Sat.go hmix ?_ | refine ResK.go ?_ | skip); conv => whnf
      refine KGO ?_
      refine Store.varK (accC h' B) vA (by rfl) rfl (flat_of (by rfl)) fun w19 v19 k19 => ?_
      refine KGO ?_
      exact ⟨⟨i + 1, B, h', mi, bi⟩, ⟨rfl, rfl, rfl, rfl, rfl, v_int (by simp), trivial⟩, ⟨keeps_new K12 k19 (by omega), by dsimp only; omega, gB, (st8).step vA k19, v19, (by dsimp only; omega), (by dsimp only; omega)⟩, by dsimp only; omega⟩
    · have c2b : lv[i].2.kind = 3 := by omega
      refine KGO ?_
      refine Draw.cut (ι := Nat × Mr) (fun p => [(0, .slice (some ⟨gb, o, none⟩) lv.length cap), (3, .bool true), (4, .pointer (some ⟨b4, 0, none⟩)), (5, .int .i64 mi), (6, .int .i64 bi), (7, .int .i64 (i : Nat)), (8, .pointer (some ⟨b8, 0, none⟩)), (13, .pointer (some ⟨p.1, 0, none⟩)), (14, .bool true)]) (fun p u => Keeps w9 u none_ ∧ VarK u p.1 42 (mrC p.2) ∧ p.2.m = m) ?_ ?_
      · have kd : Keeps w9 w9.drew none_ := (Keeps.refl w9 none_).drew
        have fml : B.mails.length ≤ 100000 := by have := fB.ml; omega
        have fmb : ∀ m ∈ B.mails, m.boxes.length ≤ 1000000 ∧ m.flags.length ≤ 1000000 := fun m hm => by have := fB.mb m hm; omega
        refine Draw.ways (fun u => Keeps w9 u none_) (fun _ => true) [[0, 1, 2, 3, 4, 5, 6, 7, 8, 9, 10, 11, 12], [0, 1, 2, 3, 4, 5, 10, 6, 7, 8, 9, 11, 12]] (by decide +kernel) kd ?_
        intro L' hL'
        simp only [List.mem_cons, List.not_mem_nil, or_false] at hL'
        rcases hL' with rfl | rfl
        · refine KGO ?_
          refine CallS.of (Tryz.call11 _ _) (ac_Find (w := w9.drew) lv[i].2.id (st8.keep kd).read fml fmb) ?_
          rintro e1 w10 ⟨y, rfl, hy, hyo, k10⟩
          rw [hf1] at hy ⊢
          dsimp only [Option.isSome, Option.getD] at hy ⊢
          have J10 := kd.trans0 k10
          have z10 := J10.size
          refine ⟨_, rfl, ?_⟩; (first | refine Then.go hmix ?_ | refine Sat.go hmix ?_ | refine ResK.go ?_ | skip); conv => whnf
          refine ⟨J10, ?_⟩
          refine KGO ?_
          have a_b11 := at_fresh w10 42 (zMl)
          have v_b11 := VarK.new w10 42 (zMl)
          have k_w11 : Keeps w10 (w10.alloc (.cells (List.toArray (zMl)) 42)) none_ := (Keeps.refl _ _).alloc _
          have z_w11 : (w10.alloc (.cells (List.toArray (zMl)) 42)).heap.size = w10.heap.size + 1 := by simp
          generalize w10.alloc (.cells (List.toArray (zMl)) 42) = w11 at *
          generalize hs_b11 : w10.heap.size = b11 at *
          have r_w11 : Keeps w11 w11 none_ := Keeps.refl _ _
          have J11 := J10.trans0 k_w11
          refine ⟨J11, ?_⟩
          refine KGO ?_
          refine Store.varK (mrC y) v_b11 (by rfl) rfl (flat_of (by rfl)) fun w12 v12 k12 => ?_
          have J12 : Keeps w9 w12 none_ := keeps_new J11 k12 (by omega)
          refine ⟨J12, ?_⟩
          refine KGO ?_
          exact ⟨(b11, y), ⟨rfl, rfl, rfl, rfl, rfl, rfl, rfl, rfl, rfl, trivial⟩, J12, v12, hy⟩
        · refine KGO ?_
          have a_b11 := at_fresh w9.drew 42 (zMl)
          have v_b11 := VarK.new w9.drew 42 (zMl)
          have k_w11 : Keeps w9.drew (w9.drew.alloc (.cells (List.toArray (zMl)) 42)) none_ := (Keeps.refl _ _).alloc _
          have z_w11 : (w9.drew.alloc (.cells (List.toArray (zMl)) 42)).heap.size = w9.drew.heap.size + 1 := by simp
          generalize w9.drew.alloc (.cells (List.toArray (zMl)) 42) = w11 at *
          generalize hs_b11 : w9.drew.heap.size = b11 at *
          have r_w11 : Keeps w11 w11 none_ := Keeps.refl _ _
          have z10 := kd.size
          have J11 := kd.trans0 k_w11
          refine ⟨J11, ?_⟩
          refine KGO ?_
          refine CallS.of (Tryz.call11 _ _) (ac_Find (w := w11) lv[i].2.id (st8.keep J11).read fml fmb) ?_
          rintro e1 w10 ⟨y, rfl, hy, hyo, k10⟩
          rw [hf1] at hy ⊢
          dsimp only [Option.isSome, Option.getD] at hy ⊢
          have J10 := J11.trans0 k10
          have v11 := v_b11.keep0 k10
          refine ⟨_, rfl, ?_⟩; (first | refine Then.go hmix ?_ | refine Sat.go hmix ?_ | refine ResK.go ?_ | skip); conv => whnf
          refine ⟨J10, ?_⟩
          refine KGO ?_
          refine Store.varK (mrC y) v11 (by rfl) rfl (flat_of (by rfl)) fun w12 v12 k12 => ?_
          have J12 : Keeps w9 w12 none_ := keeps_new J10 k12 (by omega)
          refine ⟨J12, ?_⟩
          refine KGO ?_
          exact ⟨(b11, y), ⟨rfl, rfl, rfl, rfl, rfl, rfl, rfl, rfl, rfl, trivial⟩, J12, v12, hy⟩
      rintro ⟨b13, y⟩ g13 w12 ⟨J12, v13, hy⟩
      dsimp only at v13 hy ⊢
      have K12 := K10.trans0 J12
      have vA := vA.keep0 J12
      have v8 := v8.keep0 J12
      have st8 := st8.keep J12
      have a4 := vA.at
      have a8 := v8.at
      have a13 := v13.at
      have kr12 : Keeps w12 w12 none_ := Keeps.refl _ _
      rw [← hy] at hf2
      clear kr9 hat hy hf1
      (first | refine Then.go hmix ?_ | refine Sat.go hmix ?_ | refine ResK.go ?_ | skip); conv => whnf
      refine KGO ?_
      refine Store.varK (accC h' B) vA (by rfl) rfl (flat_of (by rfl)) fun w19 v19 k19 => ?_
      refine KGO ?_
      exact ⟨⟨i + 1, B, h', mi, bi⟩, ⟨rfl, rfl, rfl, rfl, rfl, v_int (by simp), trivial⟩, ⟨keeps_new K12 k19 (by omega), by dsimp only; omega, gB, (st8).step vA k19, v19, (by dsimp only; omega), (by dsimp only; omega)⟩, by dsimp only; omega⟩
  clear hm1 hm5 hm2
  have c2a : ¬ lv[i].2.kind = 2 := fun h => c2 (.inl h)
  have c2b : ¬ lv[i].2.kind = 3 := fun h => c2 (.inr h)
  clear c2
  refine KGO ?_
  refine Store.varK (accC h' B) vA (by rfl) rfl (flat_of (by rfl)) fun w19 v19 k19 => ?_
  refine KGO ?_
  exact ⟨⟨i + 1, B, h', mi, bi⟩, ⟨rfl, rfl, rfl, rfl, rfl, v_int (by simp), trivial⟩, ⟨keeps_new K10 k19 (by omega), by dsimp only; omega, gB, (st8).step vA k19, v19, (by dsimp only; omega), (by dsimp only; omega)⟩, by dsimp only; omega⟩
end
end Go.Proofs.YtohhkegmbgancaaGreatDoor

-- alias Tryz
namespace Go.Proofs.YtohhkegmbgancaaGreatDoor
open Go.Shelf Go.RowKit Go.Pw Go.Vc Go.Cs Go.Lib
set_option maxRecDepth 100000
set_option linter.unusedVariables false
/-- A variable that is a slice of structs of integers, laid: its cells. -/
theorem rows_tab {P : Program} {w : World} {name : String} {g : Nat} {tS tE : TypeId} {fs : Array Field} {k : IntKind} {zs : List (List Int)} {rest : List (DataW Unit)}
    (h : VarReads P w name (.slice (zs.map fun r => .agg (r.map fun z => .lit (.int k z))) rest)) (hn : P.globalNamed name = some g) (hy : (P.globals[g]?).map (·.type) = some tS)
    (hS : P.underlying tS = some (.slice tE)) (hE : P.underlying tE = some (.struct fs)) (hf : ∀ (i : Nat) (f : Field), fs[i]? = some f → P.underlying f.type = some (.int k) ∧ f.offset = i ∧ P.cellsOf f.type = 1)
    (hc : P.cellsOf tE = fs.size) (h0 : 0 < fs.size) (hz : 0 < zs.length) : ∃ b o c, w.cell? ⟨g, 0, none⟩ = some (.slice (some ⟨b, o, none⟩) zs.length c) ∧ ∀ i, i < zs.length → At w b (o + i * fs.size) ((zs.getD i []).map fun z => Value.int k z) := by
  obtain ⟨g', t, cs, fuel, p, hg, hty, hvar, hd⟩ := h
  obtain rfl := Option.some.inj (hn.symm.trans hg)
  obtain rfl := Option.some.inj (hy.symm.trans hty)
  rcases DataW.trod_slice hS hd with ⟨_, hx⟩ | ⟨a, len, cap, el, rs, m, rfl, hcs, hx, _, hlc, _, hel, helem, hsp, _⟩
  · cases hx
  have hx1 := congrArg Prod.fst hx
  simp only [DataW.slice.injEq] at hx1
  obtain ⟨eE, eR⟩ := hx1
  have hlen : len = zs.length := by
    have := congrArg List.length eE
    simp at this
    omega
  subst hlen
  have hrange : ∀ i (hi : i < zs.length) j v, (zs[i].map fun z => Value.int k z)[j]? = some v → w.cell? ((a.add (i * fs.size)).add j) = some v := by
    intro i hi j v hv
    have h1 := helem i hi
    rw [hc] at h1
    obtain ⟨b, hb⟩ : ∃ b, el[i]? = some b := ⟨el[i]'(by omega), List.getElem?_eq_getElem (by omega)⟩
    rw [hb] at h1
    obtain ⟨ce, hce, hte⟩ := Option.bind_eq_some_iff.1 h1
    have hb1 : b.1 = .agg (zs[i].map fun z => .lit (.int k z)) := by
      have := congrArg (·[i]?) eE
      simpa [hb, hi] using this.symm
    have hcs := ints_of_struct (p := b.2) hE hf hc (by rw [← hb1]; exact hte)
    obtain ⟨_, hl, hcc⟩ := World.cells?_some hce
    have hj : j < fs.size := by
      have := (List.getElem?_eq_some_iff.1 hv).1
      rw [← hcs, hl] at this
      exact this
    rw [hcc j hj, hcs, hv]
  obtain ⟨R, oR, sR⟩ := a
  obtain rfl : sR = none := by
    have hl0 : 0 < (zs[0].map fun z => Value.int k z).length := by
      have h1 := helem 0 hz
      rw [hc] at h1
      obtain ⟨b, hb⟩ : ∃ b, el[0]? = some b := ⟨el[0]'(by omega), List.getElem?_eq_getElem (by omega)⟩
      rw [hb] at h1
      obtain ⟨ce, hce, hte⟩ := Option.bind_eq_some_iff.1 h1
      have hb1 : b.1 = .agg (zs[0].map fun z => .lit (.int k z)) := by
        have := congrArg (·[0]?) eE
        simpa [hb, hz] using this.symm
      have hcs := ints_of_struct (p := b.2) hE hf hc (by rw [← hb1]; exact hte)
      obtain ⟨_, hl, _⟩ := World.cells?_some hce
      rw [← hcs, hl]; exact h0
    have h00 := hrange 0 hz 0 _ (List.getElem?_eq_getElem hl0)
    have : (Addr.add (Addr.add ⟨R, oR, sR⟩ (0 * fs.size)) 0) = ⟨R, oR, sR⟩ := by simp [Addr.add]
    rw [this] at h00
    exact cell_spot h00
  refine ⟨R, oR, cap, ?_, fun i hi j v hj => ?_⟩
  · rw [World.var?_cell hg hvar 0, ← Array.getElem?_toList, hcs]
    rfl
  · rw [List.getD_eq_getElem?_getD, List.getElem?_eq_getElem hi, Option.getD_some] at hj
    have := hrange i hi j v hj
    rw [Addr.add_lit, Addr.add_lit] at this
    exact this
def foldZ : List (List Int) := foldT.map fun x => [x.1, x.2.1, x.2.2.1, x.2.2.2]
theorem fold_laid : (Rows.laid_pouch_fold_spans : DataW Unit) = .slice (foldZ.map fun r => .agg (r.map fun z => .lit (.int .i32 z))) [] := by kernel_rfl
theorem fold_reads {W : World} (h : VarReads Tryz.prog W "pouch/fold.spans" Rows.laid_pouch_fold_spans) : FoldTab W := by
  rw [fold_laid] at h
  obtain ⟨b, o, c, h1, h2⟩ := rows_tab h (by kernel_rfl) (by kernel_rfl) Tryz.underlying184 Tryz.underlying186 (fun j f hj => by
      match j, hj with
      | 0, hj => simp at hj; subst hj; exact ⟨Tryz.underlying21, rfl, by kernel_rfl⟩
      | 1, hj => simp at hj; subst hj; exact ⟨Tryz.underlying21, rfl, by kernel_rfl⟩
      | 2, hj => simp at hj; subst hj; exact ⟨Tryz.underlying21, rfl, by kernel_rfl⟩
      | 3, hj => simp at hj; subst hj; exact ⟨Tryz.underlying21, rfl, by kernel_rfl⟩
      | j + 4, hj => simp at hj) (by kernel_rfl) (by decide) (by decide)
  refine ⟨b, o, c, h1, fun i hi => ?_⟩
  have := h2 i hi
  have e : (foldZ.getD i []).map (fun z => Value.int .i32 z) = spF (foldSp i) := by
    have : ∀ i : Fin 17, (foldZ.getD i.val []) = [(foldSp i.val).1, (foldSp i.val).2.1, (foldSp i.val).2.2.1, (foldSp i.val).2.2.2] := by decide
    have := this ⟨i, hi⟩
    rw [show foldZ.getD i [] = _ from this]; rfl
  rw [e] at this
  exact this
end Go.Proofs.YtohhkegmbgancaaGreatDoor

-- alias Tryz
namespace Go.Proofs.YtohhkegmbgancaaGreatDoor
open Go.Shelf Go.RowKit Go.Pw Go.Vc Go.Cs Go.Lib
set_option maxRecDepth 100000
set_option linter.unusedVariables false
/-- A variable that is a slice of strings, laid: its cells. -/
theorem texts_tab {P : Program} {w : World} {name : String} {g : Nat} {tS tE : TypeId} {zs : List (List UInt8)} {rest : List (DataW Unit)}
    (h : VarReads P w name (.slice (zs.map fun z => .lit (.string z)) rest)) (hn : P.globalNamed name = some g) (hy : (P.globals[g]?).map (·.type) = some tS)
    (hS : P.underlying tS = some (.slice tE)) (hE : P.underlying tE = some .string)
    (hc : P.cellsOf tE = 1) (hz : 0 < zs.length) : ∃ b o c, w.cell? ⟨g, 0, none⟩ = some (.slice (some ⟨b, o, none⟩) zs.length c) ∧ b < w.heap.size ∧ At w b o (zs.map sv) := by
  obtain ⟨g', t, cs, fuel, p, hg, hty, hvar, hd⟩ := h
  obtain rfl := Option.some.inj (hn.symm.trans hg)
  obtain rfl := Option.some.inj (hy.symm.trans hty)
  rcases DataW.trod_slice hS hd with ⟨_, hx⟩ | ⟨a, len, cap, el, rs, m, rfl, hcs, hx, _, hlc, _, hel, helem, hsp, _⟩
  · cases hx
  have hx1 := congrArg Prod.fst hx
  simp only [DataW.slice.injEq] at hx1
  obtain ⟨eE, eR⟩ := hx1
  have hlen : len = zs.length := by
    have := congrArg List.length eE
    simp at this
    omega
  subst hlen
  have hrange : ∀ i (hi : i < zs.length), w.cell? (a.add i) = some (sv zs[i]) := by
    intro i hi
    have h1 := helem i hi
    rw [hc, Nat.mul_one] at h1
    obtain ⟨b, hb⟩ : ∃ b, el[i]? = some b := ⟨el[i]'(by omega), List.getElem?_eq_getElem (by omega)⟩
    rw [hb] at h1
    obtain ⟨ce, hce, hte⟩ := Option.bind_eq_some_iff.1 h1
    have hb1 : b.1 = .lit (.string zs[i]) := by
      have := congrArg (·[i]?) eE
      simpa [hb, hi] using this.symm
    obtain ⟨s, e, gg, _⟩ := DataW.trod_string hE hte
    have hs : s.data.toList = zs[i] := by
      have := congrArg Prod.fst gg
      rw [hb1] at this
      first | (simpa using this.symm) | (simpa using this)
    obtain ⟨_, hl, hcc⟩ := World.cells?_some hce
    have := hcc 0 (by omega)
    rw [e] at this
    have e0 : (a.add i).add 0 = a.add i := by simp [Addr.add]
    rw [e0] at this
    rw [this, ← hs]; rfl
  obtain ⟨R, oR, sR⟩ := a
  obtain rfl : sR = none := by
    have h00 := hrange 0 hz
    have : (Addr.add ⟨R, oR, sR⟩ 0) = ⟨R, oR, sR⟩ := by simp [Addr.add]
    rw [this] at h00
    exact cell_spot h00
  refine ⟨R, oR, cap, ?_, ?_, fun i v hi => ?_⟩
  · rw [World.var?_cell hg hvar 0, ← Array.getElem?_toList, hcs]
    rfl
  · exact cell_lt (hrange 0 hz)
  · rw [List.getElem?_map] at hi
    obtain ⟨x, hx, rfl⟩ := Option.map_eq_some_iff.1 hi
    obtain ⟨hi2, rfl⟩ := List.getElem?_eq_some_iff.1 hx
    have := hrange i hi2
    rw [Addr.add_lit] at this
    exact this
theorem roles_laid : (Rows.laid_pouch_box_roles : DataW Unit) = .slice (rolesL.map fun z => .lit (.string z)) [] := by kernel_rfl
theorem roles_reads {W : World} (h : VarReads Tryz.prog W "pouch/box.roles" Rows.laid_pouch_box_roles) : RolesTab W := by
  rw [roles_laid] at h
  exact texts_tab h (by kernel_rfl) (by kernel_rfl) Tryz.underlying26 Tryz.underlying9 (by kernel_rfl) (by decide)
end Go.Proofs.YtohhkegmbgancaaGreatDoor
