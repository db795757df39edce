/- Helper text of this claim: lemmas and contracts that the proved statement rests on; no conditions of its own. -/
import Derived.Test.YtohhkegmbgancaaGreatDoorRows
import Derived.Lib.LaidU8
import Derived.PinnedBridge
import Derived.Lib.LaidU8T
import Derived.Test.YtohhkegmbgancaaGreatDoorGAtC
namespace Go.Proofs.YtohhkegmbgancaaGreatDoor
set_option maxHeartbeats 16000000
open Go.Shelf Go.RowKit Go.Pw Go.Vc Go.Cs Go.Lib
set_option linter.unusedVariables false
set_option maxRecDepth 100000
section
variable {w : World}
structure TeI where
 i : Nat
 A : Acc
 h : Hd
 x : Hd
theorem zkg {v : Value} (l : List Opr) (id wh : Int) (hv : RowOp w v l) (hl : l.length ≤ 1000000000000) (hf : ∀ o ∈ l, FitO o) (hE : BEnv w) :
  Calls Tryz.prog 5 #[v, .int .i64 id, .int .i64 wh] w fun e w' => e = .returned (.bool true) ∧ Kp w w' n_ := by
 have hv0 := hv
 obtain ⟨lv, hlv, hr, hop⟩ := hv
 have hlen : lv.length = l.length := by rw [← hlv, List.length_map]
 obtain ⟨a, cap, rfl, hr⟩ := hr
 refine zaa (args := [.slice a lv.length cap, .int .i64 id, .int .i64 wh]) Tryz.func5 rfl NL ?_; refine GW ?_
 refine CallS.of (Tryz.call7 _ _) (zjX (w := w) hE) ?_
 rintro e w1 ⟨rfl, k1⟩
 refine RT ?_
 refine KGO ?_
 refine CallS.of (Tryz.call8 _ _) (zmF (w := w1) l (hv0.keep k1) hl hf) ?_
 rintro e w2 ⟨⟨q, rfl, hq⟩, k2⟩
 have K2 := k1.trans0 k2
 refine RT ?_
 cases q with
 | false =>
  refine KGO ?_
  exact ⟨rfl, K2⟩
 | true =>
 have h40 : lv.length ≤ 40 := by rw [hlen]; exact hq rfl
 clear hq
 refine KGO ?_
 refine CallS.of (Tryz.call9 _ _) (znP (w := w2) (hE.keep K2)) ?_
 rintro e w3 ⟨h0, rfl, st0, k3⟩
 have K3 := K2.trans0 k3
 refine RT ?_
 refine KGO ?_
 have v4 := VarK.new w3 36 (accC h0 newA)
 refine Store.fresh (vs := accC h0 newA) (by rfl) rfl (zan (by rfl)) ?_
 obtain ⟨a_b4, k_w4, z_w4⟩ := new3 w3 36 (accC h0 newA)
 generalize w3.alloc (.cells (List.toArray (accC h0 newA)) 36) = w4 at *
 generalize hs_b4 : w3.heap.size = b4 at *
 have st0 := st0.keep k_w4
 have K4 := K3.trans0 k_w4
 refine KGO ?_
 refine CallS.of (Tryz.call18 _ _) (zpE (w := w4)) ?_
 rintro e w5 ⟨x0, rfl, rf0, cp0, k5⟩
 have v4 := v4.keep0 k5
 have st0 := st0.keep k5
 have K5 := K4.trans0 k5
 refine RT ?_
 refine KGO ?_
 have v5 := VarK.new w5 36 (accC x0 newA)
 refine Store.fresh (vs := accC x0 newA) (by rfl) rfl (zan (by rfl)) ?_
 obtain ⟨a_b5, k_w6, z_w6⟩ := new3 w5 36 (accC x0 newA)
 generalize w5.alloc (.cells (List.toArray (accC x0 newA)) 36) = w6 at *
 generalize hs_b5 : w5.heap.size = b5 at *
 have st0 := st0.keep k_w6
 have rf0 := rf0.keep k_w6
 have v4 := v4.keep0 k_w6
 have K6 := K5.trans0 k_w6
 have hb4 : w.heap.size ≤ b4 := by have := K3.size; omega
 have hb5 : b4 < b5 := by have := k5.size; omega
 refine KGO ?_
 refine Loop.intro (ι := TeI) (fun p => [(0, .slice a lv.length cap), (1, .int .i64 id), (2, .int .i64 wh), (7, .bool true), (8, .pointer (some ⟨b4, 0, none⟩)), (9, .pointer (some ⟨b5, 0, none⟩)), (10, .int .i64 (p.i : Nat))])
  (fun p wr => Kp w wr n_ ∧ p.i ≤ lv.length ∧ GoodP p.A ∧ StabA wr p.h p.A ∧ VarK wr b4 36 (accC p.h p.A) ∧ RefA wr p.x p.A ∧ Caps p.x ∧ VarK wr b5 36 (accC p.x p.A) ∧ b5 < wr.heap.size) (fun p => lv.length - p.i) ⟨0, newA, h0, x0⟩ ⟨rfl, rfl, rfl, rfl, rfl, rfl, rfl, trivial⟩ ⟨K6, Nat.zero_le _, zev, st0, v4, rf0, cp0, v5, by omega⟩ ?_
 rintro ⟨i, A, h, hx⟩ gg wr ⟨hK, hi, gA, stA, vA, rA, cX, vX, hzb⟩
 dsimp only at hi gA stA vA rA cX vX ⊢
 refine GW ?_
 by_cases hlt : i < lv.length
 ·obtain ⟨gb, o, rfl, hgb, hat⟩ := hr (by omega)
  have hat := zac hat hK
  have kr := Kp.refl wr n_
  have hO := hop lv[i] (List.getElem_mem hlt)
  have hfo := hf lv[i].2 (by rw [← hlv]; exact List.mem_map_of_mem (List.getElem_mem hlt))
  have haA := vA.at
  refine KGO ?_
  have fA := zeU gA
  have hAt : A.st ≤ 1099511627776 := by have := gA.top; unfold M40 at this; omega
  have hopat : At wr gb (o + i * 45) (opC lv[i].1 lv[i].2) := zec (enc := opC') hat (fun _ => rfl) hlt
  refine Draw.cut (ι := Nat × Hd) (fun p => [(0, .slice (some ⟨gb, o, none⟩) lv.length cap), (1, .int .i64 id), (2, .int .i64 wh), (7, .bool true), (8, .pointer (some ⟨b4, 0, none⟩)), (9, .pointer (some ⟨b5, 0, none⟩)), (10, .int .i64 (i : Nat)), (11, .pointer (some ⟨p.1, 0, none⟩)), (12, .int .i64 (applyA A lv[i].2).2.1), (13, .int .i64 ((applyA A lv[i].2).2.2 : Nat))]) (fun p u => Kp wr u n_ ∧ VarK u p.1 36 (accC p.2 (applyA A lv[i].2).1) ∧ StabA u p.2 (applyA A lv[i].2).1 ∧ wr.heap.size ≤ p.1) ?_ ?_
  ·have kd : Kp wr wr.drew n_ := (Kp.refl wr n_).drew
   refine Draw.ways (fun u => Kp wr u n_) (fun _ => true) [[0, 1, 2, 3, 4, 5, 6, 7, 8, 9, 10, 11, 12, 13], [0, 1, 2, 3, 4, 10, 5, 6, 7, 8, 9, 11, 12, 13]] (by decide +kernel) kd ?_
   intro L' hL'
   simp only [List.mem_cons, List.not_mem_nil, or_false] at hL'
   rcases hL' with rfl | rfl
   ·refine KGO ?_
    refine HeldW (by rfl) (by rfl) hopat (fun _ hu => hu) (by rfl) ?_
    refine KGO ?_
    refine CallS.of (Tryz.call10 _ _) (zcr (w := wr.drew) (stA.keep kd).read fA hAt gA.sasc (hO.keep (hK.trans0 kd)) hfo (hE.keep (hK.trans0 kd))) ?_
    rintro e w5 ⟨h', rfl, st', k5⟩
    have J5 : Kp wr w5 n_ := kd.trans0 k5
    refine RT ?_
    refine ⟨J5, ?_⟩
    refine KGO ?_
    obtain ⟨a_b6, v_b6, k_w6, z_w6, r_w6⟩ := new5 w5 36 (zAcc')
    generalize w5.alloc (.cells (List.toArray (zAcc')) 36) = w6 at *
    generalize hs_b6 : w5.heap.size = b6 at *
    have J6 := J5.trans0 k_w6
    have z5 := J5.size
    refine ⟨J6, ?_⟩
    refine KGO ?_
    refine SVK (accC h' (applyA A lv[i].2).1) v_b6 fun w7 v7 k7 => ?_
    have J7 : Kp wr w7 n_ := zae J6 k7 (by omega)
    have st7 := (st'.keep k_w6).step v_b6 k7
    refine ⟨J7, ?_⟩
    refine KGO ?_
    exact ⟨(b6, h'), ⟨rfl, rfl, rfl, rfl, rfl, rfl, rfl, rfl, rfl, rfl, trivial⟩, J7, v7, st7, by dsimp only; omega⟩
   ·refine KGO ?_
    refine HeldW (by rfl) (by rfl) hopat (fun _ hu => hu) (by rfl) ?_
    refine KGO ?_
    obtain ⟨a_b6, v_b6, k_w6, z_w6, r_w6⟩ := new5 wr.drew 36 (zAcc')
    generalize wr.drew.alloc (.cells (List.toArray (zAcc')) 36) = w6 at *
    generalize hs_b6 : wr.drew.heap.size = b6 at *
    have J6 : Kp wr w6 n_ := kd.trans0 k_w6
    have z5 := kd.size
    refine ⟨J6, ?_⟩
    refine KGO ?_
    refine CallS.of (Tryz.call10 _ _) (zcr (w := w6) (stA.keep J6).read fA hAt gA.sasc (hO.keep (hK.trans0 J6)) hfo (hE.keep (hK.trans0 J6))) ?_
    rintro e w5 ⟨h', rfl, st', k5⟩
    have J5 : Kp wr w5 n_ := J6.trans0 k5
    have v6 := v_b6.keep0 k5
    refine RT ?_
    refine ⟨J5, ?_⟩
    refine KGO ?_
    refine SVK (accC h' (applyA A lv[i].2).1) v6 fun w7 v7 k7 => ?_
    have J7 : Kp wr w7 n_ := zae J5 k7 (by omega)
    have st7 := st'.step v6 k7
    refine ⟨J7, ?_⟩
    refine KGO ?_
    exact ⟨(b6, h'), ⟨rfl, rfl, rfl, rfl, rfl, rfl, rfl, rfl, rfl, rfl, trivial⟩, J7, v7, st7, by dsimp only; omega⟩
  rintro ⟨b8, h'⟩ g8 w8 ⟨J8, v8, st8, hb8⟩
  dsimp only at v8 st8 hb8 ⊢
  have K8 := hK.trans0 J8
  have vA := vA.keep0 J8
  have vX := vX.keep0 J8
  have stA := stA.keep J8
  have r8 := rA.keep J8
  have hat8 := zac hat J8
  have haX := vX.at
  have kr8 := Kp.refl w8 n_
  clear haA kr hat
  refine GW ?_
  refine KGO ?_
  have hopat : At w8 gb (o + i * 45) (opC lv[i].1 lv[i].2) := zec (enc := opC') hat8 (fun _ => rfl) hlt
  refine Draw.cut (ι := Nat × Hd) (fun p => [(0, .slice (some ⟨gb, o, none⟩) lv.length cap), (1, .int .i64 id), (2, .int .i64 wh), (7, .bool true), (8, .pointer (some ⟨b4, 0, none⟩)), (9, .pointer (some ⟨b5, 0, none⟩)), (10, .int .i64 (i : Nat)), (11, .pointer (some ⟨b8, 0, none⟩)), (12, .int .i64 (applyA A lv[i].2).2.1), (13, .int .i64 ((applyA A lv[i].2).2.2 : Nat)), (14, .pointer (some ⟨p.1, 0, none⟩)), (15, .int .i64 (applyA A lv[i].2).2.1), (16, .int .i64 ((applyA A lv[i].2).2.2 : Nat))]) (fun p u => Kp w8 u n_ ∧ VarK u p.1 36 (accC p.2 (applyA A lv[i].2).1) ∧ RefA u p.2 (applyA A lv[i].2).1 ∧ Caps p.2 ∧ w8.heap.size ≤ p.1) ?_ ?_
  ·have kd : Kp w8 w8.drew n_ := (Kp.refl w8 n_).drew
   refine Draw.ways (fun u => Kp w8 u n_) (fun _ => true) [[0, 1, 2, 3, 4, 5, 6, 7, 8, 9, 10, 11, 12, 13], [0, 1, 2, 3, 4, 10, 5, 6, 7, 8, 9, 11, 12, 13]] (by decide +kernel) kd ?_
   intro L' hL'
   simp only [List.mem_cons, List.not_mem_nil, or_false] at hL'
   rcases hL' with rfl | rfl
   ·refine KGO ?_
    refine HeldW (by rfl) (by rfl) hopat (fun _ hu => hu) (by rfl) ?_
    refine KGO ?_
    refine CallS.of (Tryz.call19 _ _) (zjg (w := w8.drew) (r8.keep kd) cX fA gA (hO.keep (K8.trans0 kd)) hfo) ?_
    rintro e w5 ⟨h', rfl, st', cp', k5⟩
    have J5 : Kp w8 w5 n_ := kd.trans0 k5
    refine RT ?_
    refine ⟨J5, ?_⟩
    refine KGO ?_
    obtain ⟨a_b6, v_b6, k_w6, z_w6, r_w6⟩ := new5 w5 36 (zAcc')
    generalize w5.alloc (.cells (List.toArray (zAcc')) 36) = w6 at *
    generalize hs_b6 : w5.heap.size = b6 at *
    have J6 := J5.trans0 k_w6
    have z5 := J5.size
    refine ⟨J6, ?_⟩
    refine KGO ?_
    refine SVK (accC h' (applyA A lv[i].2).1) v_b6 fun w7 v7 k7 => ?_
    have J7 : Kp w8 w7 n_ := zae J6 k7 (by omega)
    have st7 := (st'.keep k_w6).step v_b6 k7
    refine ⟨J7, ?_⟩
    refine KGO ?_
    exact ⟨(b6, h'), ⟨rfl, rfl, rfl, rfl, rfl, rfl, rfl, rfl, rfl, rfl, rfl, rfl, rfl, trivial⟩, J7, v7, st7, cp', by dsimp only; omega⟩
   ·refine KGO ?_
    refine HeldW (by rfl) (by rfl) hopat (fun _ hu => hu) (by rfl) ?_
    refine KGO ?_
    obtain ⟨a_b6, v_b6, k_w6, z_w6, r_w6⟩ := new5 w8.drew 36 (zAcc')
    generalize w8.drew.alloc (.cells (List.toArray (zAcc')) 36) = w6 at *
    generalize hs_b6 : w8.drew.heap.size = b6 at *
    have J6 : Kp w8 w6 n_ := kd.trans0 k_w6
    have z5 := kd.size
    refine ⟨J6, ?_⟩
    refine KGO ?_
    refine CallS.of (Tryz.call19 _ _) (zjg (w := w6) (r8.keep J6) cX fA gA (hO.keep (K8.trans0 J6)) hfo) ?_
    rintro e w5 ⟨h', rfl, st', cp', k5⟩
    have J5 : Kp w8 w5 n_ := J6.trans0 k5
    have v6 := v_b6.keep0 k5
    refine RT ?_
    refine ⟨J5, ?_⟩
    refine KGO ?_
    refine SVK (accC h' (applyA A lv[i].2).1) v6 fun w7 v7 k7 => ?_
    have J7 : Kp w8 w7 n_ := zae J5 k7 (by omega)
    have st7 := st'.step v6 k7
    refine ⟨J7, ?_⟩
    refine KGO ?_
    exact ⟨(b6, h'), ⟨rfl, rfl, rfl, rfl, rfl, rfl, rfl, rfl, rfl, rfl, rfl, rfl, rfl, trivial⟩, J7, v7, st7, cp', by dsimp only; omega⟩
  rintro ⟨b9, y'⟩ g9 w9 ⟨J9, v9, r9, c9, hb9⟩
  dsimp only at v9 r9 c9 hb9 ⊢
  have gB := zcI gA lv[i].2
  have K9 := K8.trans0 J9
  have vA := vA.keep0 J9
  have vX := vX.keep0 J9
  have v8 := v8.keep0 J9
  have st8 := st8.keep J9
  have z8 := J8.size
  have z9 := J9.size
  clear haX kr8 hat8 r8
  generalize (applyA A lv[i].2).1 = B at *
  generalize (applyA A lv[i].2).2.1 = n at *
  generalize (applyA A lv[i].2).2.2 = e at *
  have fB := zeU gB
  have a8 := v8.at
  have a9 := v9.at
  have kr9 := Kp.refl w9 n_
  refine GW ?_
  refine KGO ?_
  refine CallS.of (Tryz.call20 _ _) (zov (w := w9) st8.read r9.read fB) ?_
  rintro e1 w10 ⟨rfl, k10⟩
  have a8 := zac a8 k10
  have a9 := zac a9 k10
  have kr10 := Kp.refl w10 n_
  refine RT ?_
  refine KGO ?_
  refine CallS.of (Tryz.call21 _ _) (zoO (w := w10) (st8.keep k10).read (r9.keep k10).read fB) ?_
  rintro e1 w11 ⟨rfl, k11⟩
  rw [decide_eq_true (rfl : B = B)]
  have J11 := k10.trans0 k11
  have K11 := K9.trans0 J11
  have a8 := zac a8 k11
  have vA := vA.keep0 J11
  have vX := vX.keep0 J11
  have v9 := v9.keep0 J11
  have kr11 := Kp.refl w11 n_
  clear a9 kr9 kr10
  refine RT ?_
  refine KGO ?_
  refine SVK (accC h' B) vA fun w12 v12 k12 => ?_
  have vX := vX.keep k12 (fun e => by have e : b5 = b4 := e; omega)
  have v9 := v9.keep k12 (fun e => by have e : b9 = b4 := e; omega)
  have a9 := v9.at
  have kr12 := Kp.refl w12 n_
  clear kr11 a8
  refine KGO ?_
  refine SVK (accC y' B) vX fun w13 v13 k13 => ?_
  refine KGO ?_
  exact ⟨⟨i + 1, B, h', y'⟩, ⟨rfl, rfl, rfl, rfl, rfl, rfl, v_int (by simp), trivial⟩, ⟨zae (zae K11 k12 (by omega)) k13 (by omega), by dsimp only; omega, gB, ((st8.keep J11).step vA k12).step vX k13, v12.keep k13 (fun e => by have e : b4 = b5 := e; omega), ((r9.keep J11).step vA k12).step vX k13, c9, v13, by have := k13.size; have := k12.size; have := J11.size; omega⟩, by dsimp only; omega⟩
 have fA := zeU gA
 have fml : A.mails.length ≤ 100000 := by have := fA.ml; omega
 have fmb : ∀ m ∈ A.mails, m.boxes.length ≤ 1000000 ∧ m.flags.length ≤ 1000000 := fun m hm => by have := fA.mb m hm; omega
 have a4 := vA.at
 have kr := Kp.refl wr n_
 refine KGO ?_
 refine CallS.of (Tryz.call11 _ _) (zly (w := wr) id stA.read fml fmb) ?_
 rintro e1 w7 ⟨y, rfl, hy, hyo, k7⟩
 refine RT ?_
 refine KGO ?_
 refine Store.fresh (vs := mrC y) (by rfl) rfl (zan (by rfl)) ?_
 obtain ⟨a_b17, k_w8, z_w8⟩ := new3 w7 42 (mrC y)
 generalize w7.alloc (.cells (List.toArray (mrC y)) 42) = w8 at *
 generalize hs_b17 : w7.heap.size = b17 at *
 have J8 := k7.trans0 k_w8
 have K8 := hK.trans0 J8
 have a4 := zac a4 J8
 have a5 := zac vX.at J8
 have kr8 := Kp.refl w8 n_
 have hyo := hyo.keep k_w8
 have r8 := rA.keep J8
 have st8 := stA.keep J8
 clear kr
 refine KGO ?_
 refine CallS.of (Tryz.call22 _ _) (zoS (w := w8) (h := hx) (A := A) id r8.read.m (by omega)) ?_
 rintro e1 w9 ⟨z, rfl, hz, hzo, k9⟩
 refine RT ?_
 refine KGO ?_
 refine Store.fresh (vs := mrC z) (by rfl) rfl (zan (by rfl)) ?_
 obtain ⟨a_b19, k_w10, z_w10⟩ := new3 w9 42 (mrC z)
 generalize w9.alloc (.cells (List.toArray (mrC z)) 42) = w10 at *
 generalize hs_b19 : w9.heap.size = b19 at *
 have J10 := k9.trans0 k_w10
 have K10 := K8.trans0 J10
 have a4 := zac a4 J10
 have a5 := zac a5 J10
 have a17 := zac a_b17 J10
 have a19 := a_b19
 have kr10 := Kp.refl w10 n_
 have hyo := hyo.keep J10
 have hzo := hzo.keep k_w10
 have r10 := r8.keep J10
 have st10 := st8.keep J10
 clear kr8 a_b17 a_b19
 have hyz : y.m = z.m := by rw [hy, hz]
 generalize (findL A.mails id).isSome = fs
 have fyb : y.m.boxes.length ≤ 1000000 ∧ y.m.flags.length ≤ 1000000 := by
  rw [hy]
  cases hfd : findL A.mails id with
  | none => exact ⟨by decide, by decide⟩
  | some m => exact fmb m (zkD hfd).1
 have fzb : z.m.boxes.length ≤ 1000000 ∧ z.m.flags.length ≤ 1000000 := by rw [← hyz]; exact fyb
 have hin : (inL A.mails wh).length ≤ 1000000 := by
  have := inL_len' A.mails wh
  omega
 cases fs
 ·refine KGO ?_
  have kd : Kp w10 w10.drew n_ := (Kp.refl w10 n_).drew
  refine Draw.held (fun u => Kp w10 u n_) (fun _ => true) (by decide +kernel) kd ?_
  refine GW ?_
  refine KGO ?_
  refine CallS.of (Tryz.call12 _ _) (zdb (w := w10.drew) y z (hyo.keep kd) (hzo.keep kd) fyb.1 fyb.2 fzb.1 fzb.2) ?_
  rintro e w11 ⟨rfl, k11⟩
  have J11 : Kp w10 w11 n_ := kd.trans0 k11
  rw [decide_eq_true hyz]
  refine RT ?_
  refine ⟨J11, ?_⟩
  refine KGO ?_
  refine CallS.of (Tryz.call17 _ _) (ac_In (w := w11) (h := h) (A := A) wh (st10.keep J11).read.m (by omega) (fun m hm => (fmb m hm).1)) ?_
  rintro e w12 ⟨vi, rfl, oi, k12⟩
  obtain ⟨ai, ci, rfl⟩ := zab oi
  have J12 := J11.trans0 k12
  refine RT ?_
  refine ⟨J12, ?_⟩
  refine KGO ?_
  refine CallS.of (Tryz.call23 _ _) (ra_In (w := w12) (h := hx) (A := A) wh (r10.keep J12).read.m (by omega) (fun m hm => (fmb m hm).1)) ?_
  rintro e w13 ⟨vj, rfl, oj, k13⟩
  obtain ⟨aj, cj, rfl⟩ := zab oj
  have J13 := J12.trans0 k13
  refine RT ?_
  refine ⟨J13, ?_⟩
  refine KGO ?_
  refine CallS.of (Tryz.call14 _ _) (zcY (w := w13) (inL A.mails wh) (inL A.mails wh) (zat (zah oi k13 fun q _ h => h)) (zat oj) hin hin) ?_
  rintro e w14 ⟨rfl, k14⟩
  have J14 := J13.trans0 k14
  rw [decide_eq_true (rfl : inL A.mails wh = inL A.mails wh)]
  refine RT ?_
  refine ⟨J14, ?_⟩
  refine KGO ?_
  exact ⟨rfl, K10.trans0 J14⟩
 ·refine KGO ?_
  have kd : Kp w10 w10.drew n_ := (Kp.refl w10 n_).drew
  refine Draw.held (fun u => Kp w10 u n_) (fun _ => true) (by decide +kernel) kd ?_
  refine GW ?_
  refine KGO ?_
  refine CallS.of (Tryz.call12 _ _) (zdb (w := w10.drew) y z (hyo.keep kd) (hzo.keep kd) fyb.1 fyb.2 fzb.1 fzb.2) ?_
  rintro e w11 ⟨rfl, k11⟩
  have J11 : Kp w10 w11 n_ := kd.trans0 k11
  rw [decide_eq_true hyz]
  refine RT ?_
  refine ⟨J11, ?_⟩
  refine KGO ?_
  refine CallS.of (Tryz.call17 _ _) (ac_In (w := w11) (h := h) (A := A) wh (st10.keep J11).read.m (by omega) (fun m hm => (fmb m hm).1)) ?_
  rintro e w12 ⟨vi, rfl, oi, k12⟩
  obtain ⟨ai, ci, rfl⟩ := zab oi
  have J12 := J11.trans0 k12
  refine RT ?_
  refine ⟨J12, ?_⟩
  refine KGO ?_
  refine CallS.of (Tryz.call23 _ _) (ra_In (w := w12) (h := hx) (A := A) wh (r10.keep J12).read.m (by omega) (fun m hm => (fmb m hm).1)) ?_
  rintro e w13 ⟨vj, rfl, oj, k13⟩
  obtain ⟨aj, cj, rfl⟩ := zab oj
  have J13 := J12.trans0 k13
  refine RT ?_
  refine ⟨J13, ?_⟩
  refine KGO ?_
  refine CallS.of (Tryz.call14 _ _) (zcY (w := w13) (inL A.mails wh) (inL A.mails wh) (zat (zah oi k13 fun q _ h => h)) (zat oj) hin hin) ?_
  rintro e w14 ⟨rfl, k14⟩
  have J14 := J13.trans0 k14
  rw [decide_eq_true (rfl : inL A.mails wh = inL A.mails wh)]
  refine RT ?_
  refine ⟨J14, ?_⟩
  refine KGO ?_
  exact ⟨rfl, K10.trans0 J14⟩
end
theorem znp {P : Program} {w : World} {name : String} {g : Nat} {tS tE : TypeId} {fs : Array Field} {k : IntKind} {zs : List (List Int)} {rest : List (DataW Unit)}
  (h : VarReads P w name (.slice (zs.map fun r => .agg (r.map fun z => .lit (.int k z))) rest)) (hn : P.globalNamed name = some g) (hy : (P.globals[g]?).map (·.type) = some tS)
  (hS : P.underlying tS = some (.slice tE)) (hE : P.underlying tE = some (.struct fs)) (hf : ∀ (i : Nat) (f : Field), fs[i]? = some f → P.underlying f.type = some (.int k) ∧ f.offset = i ∧ P.cellsOf f.type = 1)
  (hc : P.cellsOf tE = fs.size) (h0 : 0 < fs.size) (hz : 0 < zs.length) : ∃ b o c, w.cell? ⟨g, 0, none⟩ = some (.slice (some ⟨b, o, none⟩) zs.length c) ∧ ∀ i, i < zs.length → At w b (o + i * fs.size) ((zs.getD i []).map fun z => Value.int k z) := by
 obtain ⟨g', t, cs, fuel, p, hg, hty, hvar, hd⟩ := h
 obtain rfl := Option.some.inj (hn.symm.trans hg)
 obtain rfl := Option.some.inj (hy.symm.trans hty)
 rcases DataW.trod_slice hS hd with ⟨_, hx⟩ | ⟨a, len, cap, el, rs, m, rfl, hcs, hx, _, hlc, _, hel, helem, hsp, _⟩
 ·cases hx
 have hx1 := congrArg Prod.fst hx
 simp only [DataW.slice.injEq] at hx1
 obtain ⟨eE, eR⟩ := hx1
 have hlen : len = zs.length := by
  have := congrArg List.length eE
  simp at this
  omega
 subst hlen
 have hrange : ∀ i (hi : i < zs.length) j v, (zs[i].map fun z => Value.int k z)[j]? = some v → w.cell? ((a.add (i * fs.size)).add j) = some v := by
  intro i hi j v hv
  have h1 := helem i hi
  rw [hc] at h1
  obtain ⟨b, hb⟩ : ∃ b, el[i]? = some b := ⟨el[i]'(by omega), List.getElem?_eq_getElem (by omega)⟩
  rw [hb] at h1
  obtain ⟨ce, hce, hte⟩ := Option.bind_eq_some_iff.1 h1
  have hb1 : b.1 = .agg (zs[i].map fun z => .lit (.int k z)) := by
   have := congrArg (·[i]?) eE
   simpa [hb, hi] using this.symm
  have hcs := ints_of_struct (p := b.2) hE hf hc (by rw [← hb1]; exact hte)
  obtain ⟨_, hl, hcc⟩ := World.cells?_some hce
  have hj : j < fs.size := by
   have := (List.getElem?_eq_some_iff.1 hv).1
   rw [← hcs, hl] at this
   exact this
  rw [hcc j hj, hcs, hv]
 obtain ⟨R, oR, sR⟩ := a
 obtain rfl : sR = none := by
  have hl0 : 0 < (zs[0].map fun z => Value.int k z).length := by
   have h1 := helem 0 hz
   rw [hc] at h1
   obtain ⟨b, hb⟩ : ∃ b, el[0]? = some b := ⟨el[0]'(by omega), List.getElem?_eq_getElem (by omega)⟩
   rw [hb] at h1
   obtain ⟨ce, hce, hte⟩ := Option.bind_eq_some_iff.1 h1
   have hb1 : b.1 = .agg (zs[0].map fun z => .lit (.int k z)) := by
    have := congrArg (·[0]?) eE
    simpa [hb, hz] using this.symm
   have hcs := ints_of_struct (p := b.2) hE hf hc (by rw [← hb1]; exact hte)
   obtain ⟨_, hl, _⟩ := World.cells?_some hce
   rw [← hcs, hl]; exact h0
  have h00 := hrange 0 hz 0 _ (List.getElem?_eq_getElem hl0)
  have : (Addr.add (Addr.add ⟨R, oR, sR⟩ (0 * fs.size)) 0) = ⟨R, oR, sR⟩ := by simp [Addr.add]
  rw [this] at h00
  exact cell_spot h00
 refine ⟨R, oR, cap, ?_, fun i hi j v hj => ?_⟩
 ·rw [World.var?_cell hg hvar 0, ← Array.getElem?_toList, hcs]
  rfl
 ·rw [List.getD_eq_getElem?_getD, List.getElem?_eq_getElem hi, Option.getD_some] at hj
  have := hrange i hi j v hj
  rw [Addr.add_lit, Addr.add_lit] at this
  exact this
def foldZ : List (List Int) := foldT.map fun x => [x.1, x.2.1, x.2.2.1, x.2.2.2]
theorem zlR : (Rows.laid_pouch_fold_spans : DataW Unit) = .slice (foldZ.map fun r => .agg (r.map fun z => .lit (.int .i32 z))) [] := by kernel_rfl
theorem zkk {W : World} (h : VarReads Tryz.prog W "pouch/fold.spans" Rows.laid_pouch_fold_spans) : FoldTab W := by
 rw [zlR] at h
 obtain ⟨b, o, c, h1, h2⟩ := znp h (by kernel_rfl) (by kernel_rfl) Tryz.underlying184 Tryz.underlying186 (fun j f hj => by
   match j, hj with
   | 0, hj => simp at hj; subst hj; exact ⟨Tryz.underlying21, rfl, by kernel_rfl⟩
   | 1, hj => simp at hj; subst hj; exact ⟨Tryz.underlying21, rfl, by kernel_rfl⟩
   | 2, hj => simp at hj; subst hj; exact ⟨Tryz.underlying21, rfl, by kernel_rfl⟩
   | 3, hj => simp at hj; subst hj; exact ⟨Tryz.underlying21, rfl, by kernel_rfl⟩
   | j + 4, hj => simp at hj) (by kernel_rfl) (by decide) (by decide)
 refine ⟨b, o, c, h1, fun i hi => ?_⟩
 have := h2 i hi
 have e : (foldZ.getD i []).map (fun z => Value.int .i32 z) = spF (foldSp i) := by
  have : ∀ i : Fin 17, (foldZ.getD i.val []) = [(foldSp i.val).1, (foldSp i.val).2.1, (foldSp i.val).2.2.1, (foldSp i.val).2.2.2] := by decide
  have := this ⟨i, hi⟩
  rw [show foldZ.getD i [] = _ from this]; rfl
 rw [e] at this
 exact this
theorem zmq {P : Program} {w : World} {name : String} {g : Nat} {tS tE : TypeId} {zs : List (List UInt8)} {rest : List (DataW Unit)}
  (h : VarReads P w name (.slice (zs.map fun z => .lit (.string z)) rest)) (hn : P.globalNamed name = some g) (hy : (P.globals[g]?).map (·.type) = some tS)
  (hS : P.underlying tS = some (.slice tE)) (hE : P.underlying tE = some .string)
  (hc : P.cellsOf tE = 1) (hz : 0 < zs.length) : ∃ b o c, w.cell? ⟨g, 0, none⟩ = some (.slice (some ⟨b, o, none⟩) zs.length c) ∧ b < w.heap.size ∧ At w b o (zs.map sv) := by
 obtain ⟨g', t, cs, fuel, p, hg, hty, hvar, hd⟩ := h
 obtain rfl := Option.some.inj (hn.symm.trans hg)
 obtain rfl := Option.some.inj (hy.symm.trans hty)
 rcases DataW.trod_slice hS hd with ⟨_, hx⟩ | ⟨a, len, cap, el, rs, m, rfl, hcs, hx, _, hlc, _, hel, helem, hsp, _⟩
 ·cases hx
 have hx1 := congrArg Prod.fst hx
 simp only [DataW.slice.injEq] at hx1
 obtain ⟨eE, eR⟩ := hx1
 have hlen : len = zs.length := by
  have := congrArg List.length eE
  simp at this
  omega
 subst hlen
 have hrange : ∀ i (hi : i < zs.length), w.cell? (a.add i) = some (sv zs[i]) := by
  intro i hi
  have h1 := helem i hi
  rw [hc, Nat.mul_one] at h1
  obtain ⟨b, hb⟩ : ∃ b, el[i]? = some b := ⟨el[i]'(by omega), List.getElem?_eq_getElem (by omega)⟩
  rw [hb] at h1
  obtain ⟨ce, hce, hte⟩ := Option.bind_eq_some_iff.1 h1
  have hb1 : b.1 = .lit (.string zs[i]) := by
   have := congrArg (·[i]?) eE
   simpa [hb, hi] using this.symm
  obtain ⟨s, e, gg, _⟩ := DataW.trod_string hE hte
  have hs : s.data.toList = zs[i] := by
   have := congrArg Prod.fst gg
   rw [hb1] at this
   first | (simpa using this.symm) | (simpa using this)
  obtain ⟨_, hl, hcc⟩ := World.cells?_some hce
  have := hcc 0 (by omega)
  rw [e] at this
  have e0 : (a.add i).add 0 = a.add i := by simp [Addr.add]
  rw [e0] at this
  rw [this, ← hs]; rfl
 obtain ⟨R, oR, sR⟩ := a
 obtain rfl : sR = none := by
  have h00 := hrange 0 hz
  have : (Addr.add ⟨R, oR, sR⟩ 0) = ⟨R, oR, sR⟩ := by simp [Addr.add]
  rw [this] at h00
  exact cell_spot h00
 refine ⟨R, oR, cap, ?_, ?_, fun i v hi => ?_⟩
 ·rw [World.var?_cell hg hvar 0, ← Array.getElem?_toList, hcs]
  rfl
 ·exact cell_lt (hrange 0 hz)
 ·rw [List.getElem?_map] at hi
  obtain ⟨x, hx, rfl⟩ := Option.map_eq_some_iff.1 hi
  obtain ⟨hi2, rfl⟩ := List.getElem?_eq_some_iff.1 hx
  have := hrange i hi2
  rw [Addr.add_lit] at this
  exact this
theorem zkl : (Rows.laid_pouch_box_roles : DataW Unit) = .slice (rolesL.map fun z => .lit (.string z)) [] := by kernel_rfl
theorem zid {W : World} (h : VarReads Tryz.prog W "pouch/box.roles" Rows.laid_pouch_box_roles) : RolesTab W := by
 rw [zkl] at h
 exact zmq h (by kernel_rfl) (by kernel_rfl) Tryz.underlying26 Tryz.underlying9 (by kernel_rfl) (by decide)
abbrev cI : Int → List Value := fun z => [Value.int .i64 z]
abbrev pI : Int → Prop := fun z => -9223372036854775808 ≤ z ∧ z ≤ 9223372036854775807
abbrev cS : ByteArray → List Value := fun z => [Value.string z]
abbrev pS : ByteArray → Prop := fun z => z.size ≤ 140737488355328
abbrev cB : List Int → List Value := fun l => l.map (Value.int .u8)
abbrev pB : List Int → Prop := fun l => l.length = 32
abbrev cV : Value × List Int → List Value := fun y => [y.1]
abbrev cW : Value × List (List UInt8) → List Value := fun y => [y.1]
abbrev pV (W : World) : Value × List Int → Prop := fun y => RowI W y.1 y.2 ∧ y.2.length * 8 ≤ 140737488351232 ∧ ∀ z ∈ y.2, pI z
abbrev pW (W : World) : Value × List (List UInt8) → Prop := fun y => RowT W y.1 y.2 ∧ y.2.length * 16 ≤ 140737488351232 ∧ ∀ z ∈ y.2, z.length ≤ 140737488355328
theorem zjZ {W : World} : Opens Tryz.prog W 25 cV (pV W) := @zcX _ W _ _ Int _ inC pI 1 8 Tryz.underlying25 (@zby _ _ _ Tryz.underlying3) (fun _ => rfl) (by decide) (by kernel_rfl) (by kernel_rfl) (by decide)
theorem zkW {W : World} : Opens Tryz.prog W 9 txC (fun z => z.length ≤ 140737488355328) := @Opens.imp _ _ _ _ _ _ _ _ _ (@zbU _ W _ Tryz.underlying9) L (fun s => by show [Value.string s] = [Value.string (str (L s))]; rw [str_L]) (fun s h => by rw [show (L s).length = s.size from by rw [← zav, str_L]]; exact h)
theorem zfW {W : World} : Opens Tryz.prog W 26 cW (pW W) := @zcX _ W _ _ (List UInt8) _ txC (fun z => z.length ≤ 140737488355328) 1 16 Tryz.underlying26 (@zkW W) (fun _ => rfl) (by decide) (by kernel_rfl) (by kernel_rfl) (by decide)
abbrev Ty14 := Unit
abbrev Cc14 : Ty14 → List Value := fun _ => []
abbrev Pp14 (W : World) : Ty14 → Prop := fun _ => True
abbrev Ty13 := (Int) × Ty14
abbrev Cc13 : Ty13 → List Value := fun y => cI y.1 ++ Cc14 y.2
abbrev Pp13 (W : World) : Ty13 → Prop := fun y => pI y.1 ∧ Pp14 W y.2
abbrev Ty12 := (Int) × Ty13
abbrev Cc12 : Ty12 → List Value := fun y => cI y.1 ++ Cc13 y.2
abbrev Pp12 (W : World) : Ty12 → Prop := fun y => pI y.1 ∧ Pp13 W y.2
abbrev Ty11 := (Int) × Ty12
abbrev Cc11 : Ty11 → List Value := fun y => cI y.1 ++ Cc12 y.2
abbrev Pp11 (W : World) : Ty11 → Prop := fun y => pI y.1 ∧ Pp12 W y.2
abbrev Ty10 := (Value × List (List UInt8)) × Ty11
abbrev Cc10 : Ty10 → List Value := fun y => cW y.1 ++ Cc11 y.2
abbrev Pp10 (W : World) : Ty10 → Prop := fun y => (pW W) y.1 ∧ Pp11 W y.2
abbrev Ty9 := (Value × List (List UInt8)) × Ty10
abbrev Cc9 : Ty9 → List Value := fun y => cW y.1 ++ Cc10 y.2
abbrev Pp9 (W : World) : Ty9 → Prop := fun y => (pW W) y.1 ∧ Pp10 W y.2
abbrev Ty8 := (Value × List Int) × Ty9
abbrev Cc8 : Ty8 → List Value := fun y => cV y.1 ++ Cc9 y.2
abbrev Pp8 (W : World) : Ty8 → Prop := fun y => (pV W) y.1 ∧ Pp9 W y.2
abbrev Ty7 := (List Int) × Ty8
abbrev Cc7 : Ty7 → List Value := fun y => cB y.1 ++ Cc8 y.2
abbrev Pp7 (W : World) : Ty7 → Prop := fun y => pB y.1 ∧ Pp8 W y.2
abbrev Ty6 := (ByteArray) × Ty7
abbrev Cc6 : Ty6 → List Value := fun y => cS y.1 ++ Cc7 y.2
abbrev Pp6 (W : World) : Ty6 → Prop := fun y => pS y.1 ∧ Pp7 W y.2
abbrev Ty5 := (ByteArray) × Ty6
abbrev Cc5 : Ty5 → List Value := fun y => cS y.1 ++ Cc6 y.2
abbrev Pp5 (W : World) : Ty5 → Prop := fun y => pS y.1 ∧ Pp6 W y.2
abbrev Ty4 := (ByteArray) × Ty5
abbrev Cc4 : Ty4 → List Value := fun y => cS y.1 ++ Cc5 y.2
abbrev Pp4 (W : World) : Ty4 → Prop := fun y => pS y.1 ∧ Pp5 W y.2
abbrev Ty3 := (Int) × Ty4
abbrev Cc3 : Ty3 → List Value := fun y => cI y.1 ++ Cc4 y.2
abbrev Pp3 (W : World) : Ty3 → Prop := fun y => pI y.1 ∧ Pp4 W y.2
abbrev Ty2 := (Int) × Ty3
abbrev Cc2 : Ty2 → List Value := fun y => cI y.1 ++ Cc3 y.2
abbrev Pp2 (W : World) : Ty2 → Prop := fun y => pI y.1 ∧ Pp3 W y.2
abbrev Ty1 := (Int) × Ty2
abbrev Cc1 : Ty1 → List Value := fun y => cI y.1 ++ Cc2 y.2
abbrev Pp1 (W : World) : Ty1 → Prop := fun y => pI y.1 ∧ Pp2 W y.2
abbrev Ty0 := (Int) × Ty1
abbrev Cc0 : Ty0 → List Value := fun y => cI y.1 ++ Cc1 y.2
abbrev Pp0 (W : World) : Ty0 → Prop := fun y => pI y.1 ∧ Pp1 W y.2
def slOf : Value → Sl
 | .slice a n c => ⟨a, n, c⟩
 | _ => ⟨none, 0, 0⟩
def dgOf (l : List Int) : Dg := ⟨l[0]!, l[1]!, l[2]!, l[3]!, l[4]!, l[5]!, l[6]!, l[7]!, l[8]!, l[9]!, l[10]!, l[11]!, l[12]!, l[13]!, l[14]!, l[15]!, l[16]!, l[17]!, l[18]!, l[19]!, l[20]!, l[21]!, l[22]!, l[23]!, l[24]!, l[25]!, l[26]!, l[27]!, l[28]!, l[29]!, l[30]!, l[31]!⟩
theorem dg_of {l : List Int} (h : l.length = 32) : l.map (Value.int .u8) = dgC (dgOf l) := by
 have e : dgC (dgOf l) = (List.range 32).map (fun i => Value.int .u8 l[i]!) := rfl
 rw [e]
 refine List.ext_getElem? fun i => ?_
 by_cases hi : i < 32
 ·have hl : i < l.length := by omega
  simp [hi, hl]
 ·rw [List.getElem?_eq_none (by simp; omega), List.getElem?_eq_none (by simp; omega)]
theorem sl_of {α : Type} {W : World} {v : Value} {c : α → List Value} {l : List α} (h : RowO W v c l) : v = (slOf v).v := by
 obtain ⟨a, cap, rfl, _⟩ := h
 rfl
def opOf (y : Ty0) : Ov × Opr := (⟨slOf y.2.2.2.2.2.2.2.2.1.1, slOf y.2.2.2.2.2.2.2.2.2.1.1, slOf y.2.2.2.2.2.2.2.2.2.2.1.1⟩, ⟨y.1, y.2.1, y.2.2.1, y.2.2.2.1, L y.2.2.2.2.1, L y.2.2.2.2.2.1, L y.2.2.2.2.2.2.1, dgOf y.2.2.2.2.2.2.2.1, y.2.2.2.2.2.2.2.2.1.2, y.2.2.2.2.2.2.2.2.2.1.2, y.2.2.2.2.2.2.2.2.2.2.1.2, y.2.2.2.2.2.2.2.2.2.2.2.1, y.2.2.2.2.2.2.2.2.2.2.2.2.1, y.2.2.2.2.2.2.2.2.2.2.2.2.2.1⟩)
theorem znu {W : World} (y : Ty0) (h : Pp0 W y) : Cc0 y = opC' (opOf y) := by
 obtain ⟨y0, y1, y2, y3, y4, y5, y6, y7, ⟨y8, z8⟩, ⟨y9, z9⟩, ⟨y10, z10⟩, y11, y12, y13, y14⟩ := y
 obtain ⟨_, _, _, _, _, _, _, h7, ⟨h8, _⟩, ⟨h9, _⟩, ⟨h10, _⟩, _⟩ := h
 dsimp only at h7 h8 h9 h10
 have e8 := sl_of h8
 have e9 := sl_of h9
 have e10 := sl_of h10
 have e7 := dg_of h7
 show [Value.int .i64 y0] ++ ([Value.int .i64 y1] ++ ([Value.int .i64 y2] ++ ([Value.int .i64 y3] ++ ([Value.string y4] ++ ([Value.string y5] ++ ([Value.string y6] ++ (y7.map (Value.int .u8) ++ ([y8] ++ ([y9] ++ ([y10] ++ ([Value.int .i64 y11] ++ ([Value.int .i64 y12] ++ ([Value.int .i64 y13] ++ []))))))))))))) = opC (opOf _).1 (opOf _).2
 rw [e7]
 unfold opOf opC
 dsimp only
 rw [str_L, str_L, str_L]
 show _ = [Value.int .i64 y0, .int .i64 y1, .int .i64 y2, .int .i64 y3, .string y4, .string y5, .string y6] ++ (dgC (dgOf y7) ++ [(slOf y8).v, (slOf y9).v, (slOf y10).v, .int .i64 y11, .int .i64 y12, .int .i64 y13])
 rw [← e8, ← e9, ← e10]
 simp only [List.nil_append, List.cons_append, List.append_nil]
theorem zpS {W : World} (y : Ty0) (h : Pp0 W y) : OpR W (opOf y).1 (opOf y).2 ∧ FitO (opOf y).2 := by
 obtain ⟨y0, y1, y2, y3, y4, y5, y6, y7, ⟨y8, z8⟩, ⟨y9, z9⟩, ⟨y10, z10⟩, y11, y12, y13, y14⟩ := y
 obtain ⟨_, _, _, _, h4, h5, h6, h7, ⟨h8, b8, _⟩, ⟨h9, b9, c9⟩, ⟨h10, b10, c10⟩, _⟩ := h
 dsimp only at h4 h5 h6 h7 h8 b8 h9 b9 c9 h10 b10 c10
 have hL : ∀ s : ByteArray, (L s).length = s.size := fun s => by rw [← zav, str_L]
 refine ⟨⟨?_, ?_, ?_⟩, ⟨by show z8.length ≤ _; omega, by show z9.length ≤ _; omega, by show z10.length ≤ _; omega, c9, c10, by show (L y4).length ≤ _; rw [hL]; exact h4, by show (L y5).length ≤ _; rw [hL]; exact h5, by show (L y6).length ≤ _; rw [hL]; exact h6⟩⟩
 ·show RowI W (slOf y8).v z8
  rw [← sl_of h8]; exact h8
 ·show RowT W (slOf y9).v z9
  rw [← sl_of h9]; exact h9
 ·show RowT W (slOf y10).v z10
  rw [← sl_of h10]; exact h10
theorem znj {W : World} : Opens Tryz.prog W 28 opC' (fun p => OpR W p.1 p.2 ∧ FitO p.2) := by
 refine @Opens.impP _ _ _ _ _ Cc0 (Pp0 W) _ _ (@zhA _ _ _ _ 45 Ty0 Cc0 (Pp0 W) Tryz.underlying28 (by kernel_rfl) ?h) opOf znu zpS
 refine @zaK _ _ _ _ _ _ 1 _ _ cI pI Cc1 (Pp1 W) rfl ?_ ?_ ?_
 ·kernel_rfl
 ·exact @zby _ _ _ Tryz.underlying3
 refine @zaK _ _ _ _ _ _ 1 _ _ cI pI Cc2 (Pp2 W) rfl ?_ ?_ ?_
 ·kernel_rfl
 ·exact @zby _ _ _ Tryz.underlying3
 refine @zaK _ _ _ _ _ _ 1 _ _ cI pI Cc3 (Pp3 W) rfl ?_ ?_ ?_
 ·kernel_rfl
 ·exact @zby _ _ _ Tryz.underlying3
 refine @zaK _ _ _ _ _ _ 1 _ _ cI pI Cc4 (Pp4 W) rfl ?_ ?_ ?_
 ·kernel_rfl
 ·exact @zby _ _ _ Tryz.underlying3
 refine @zaK _ _ _ _ _ _ 1 _ _ cS pS Cc5 (Pp5 W) rfl ?_ ?_ ?_
 ·kernel_rfl
 ·exact @zbU _ _ _ Tryz.underlying9
 refine @zaK _ _ _ _ _ _ 1 _ _ cS pS Cc6 (Pp6 W) rfl ?_ ?_ ?_
 ·kernel_rfl
 ·exact @zbU _ _ _ Tryz.underlying9
 refine @zaK _ _ _ _ _ _ 1 _ _ cS pS Cc7 (Pp7 W) rfl ?_ ?_ ?_
 ·kernel_rfl
 ·exact @zbU _ _ _ Tryz.underlying9
 refine @zaK _ _ _ _ _ _ 32 _ _ cB pB Cc8 (Pp8 W) rfl ?_ ?_ ?_
 ·kernel_rfl
 ·exact @ziD _ _ _ 32 _ .u8 Tryz.underlying24 Tryz.underlying5 (by kernel_rfl) (by kernel_rfl)
 refine @zaK _ _ _ _ _ _ 1 _ _ cV (pV W) Cc9 (Pp9 W) rfl ?_ ?_ ?_
 ·kernel_rfl
 ·exact @zjZ W
 refine @zaK _ _ _ _ _ _ 1 _ _ cW (pW W) Cc10 (Pp10 W) rfl ?_ ?_ ?_
 ·kernel_rfl
 ·exact @zfW W
 refine @zaK _ _ _ _ _ _ 1 _ _ cW (pW W) Cc11 (Pp11 W) rfl ?_ ?_ ?_
 ·kernel_rfl
 ·exact @zfW W
 refine @zaK _ _ _ _ _ _ 1 _ _ cI pI Cc12 (Pp12 W) rfl ?_ ?_ ?_
 ·kernel_rfl
 ·exact @zby _ _ _ Tryz.underlying3
 refine @zaK _ _ _ _ _ _ 1 _ _ cI pI Cc13 (Pp13 W) rfl ?_ ?_ ?_
 ·kernel_rfl
 ·exact @zby _ _ _ Tryz.underlying3
 refine @zaK _ _ _ _ _ _ 1 _ _ cI pI Cc14 (Pp14 W) rfl ?_ ?_ ?_
 ·kernel_rfl
 ·exact @zby _ _ _ Tryz.underlying3
 exact @zmk _ _ _
instance : Inhabited (Ov × Opr) := ⟨(⟨⟨none, 0, 0⟩, ⟨none, 0, 0⟩, ⟨none, 0, 0⟩⟩, ⟨0, 0, 0, 0, [], [], [], dgOf [], [], [], [], 0, 0, 0⟩)⟩
theorem zpp {W : World} {H : Type} {enc : TypeId × Value → H} {v : Value} {d : DataW H} {ps : List MemPlace} (hs : v.cells.toList = [v]) (ht : DataW.Trod enc Tryz.prog W 0 (fun _ => true) true 22 v d ps) (hsz : ∀ n ∈ d.weights Tryz.prog 22, n ≤ reachBytes) :
  ∃ l : List Opr, RowOp W v l ∧ l.length ≤ 1000000000000 ∧ ∀ o ∈ l, FitO o := by
 have op := @zcX Tryz.prog W 22 _ (Ov × Opr) _ _ _ 45 208 Tryz.underlying22 (@znj W) (fun _ => rfl) (by decide) (by kernel_rfl) (by kernel_rfl) (by decide)
 obtain ⟨⟨v1, l⟩, e, h1, h2, h3⟩ := zie (@op) ht hsz
 rw [hs] at e
 obtain rfl : v = v1 := by simpa using e
 dsimp only at h1 h2 h3
 refine ⟨l.map (·.2), ⟨l, rfl, h1, fun p hp => (h3 p hp).1⟩, by rw [List.length_map]; omega, fun o ho => ?_⟩
 obtain ⟨p, hp, rfl⟩ := List.mem_map.1 ho
 exact (h3 p hp).2
theorem u8x3 : U8Extra Tryz.prog ren196 := ⟨by kernel_rfl, by kernel_rfl, by kernel_rfl, by kernel_rfl, by kernel_rfl, by kernel_rfl, by kernel_rfl⟩
theorem zoX : (Rows.laid_unicode_utf8_acceptRanges : DataW Unit) = acceptData := by kernel_rfl
theorem zoN : Rows.laid_unicode_utf8_first = firstData := Pinned.utf8First_eq
theorem zmI {W : World} (h3 : VarReads Tryz.prog W "unicode/utf8.first" Rows.laid_unicode_utf8_first) (h4 : VarReads Tryz.prog W "unicode/utf8.acceptRanges" Rows.laid_unicode_utf8_acceptRanges) : Tabs W := by
 rw [zoX] at h4
 rw [zoN] at h3
 exact utf8Tabs_of_readsT (U8Types.of196 lays196) u8x3 h3 h4
end Go.Proofs.YtohhkegmbgancaaGreatDoor
