/- Helper lemmas that the proved statement rests on; no conditions of their own. -/
import Derived.Test.YtennokckmjcefaaGreatDoorGNe1
import Derived.Test.YtennokckmjcefaaGreatDoorGNf0
set_option linter.unusedVariables false
set_option maxHeartbeats 8000000
set_option maxRecDepth 100000
namespace Go.Proofs.YtennokckmjcefaaGreatDoor
open Go.Shelf Go.RowKit Go.Pw Go.Vc Go.Cs Go.Lib Go.Cd Go.Mg
section
variable {w : World}
theorem zdU (s t : List UInt8) : Calls Tryz.prog 49 #[.string (str s), .string (str t)] w fun e w' => e = .returned (.agg (List.toArray [.string (str []), .string (str []), .string (str []), .string (str s), .string (str t), .string (str [])])) ∧ Kp w w' n_ := by
 refine zaa (args := [.string (str s), .string (str t)]) Tryz.func49 rfl NL ?_; refine GW ?_
 obtain ⟨a_b4, v_b4, k_w1, z_w1, r_w1⟩ := new5 w 32 ([.string ⟨#[]⟩, .string ⟨#[]⟩, .string ⟨#[]⟩, .string ⟨#[]⟩, .string ⟨#[]⟩, .string ⟨#[]⟩])
 generalize w.alloc (.cells (List.toArray ([.string ⟨#[]⟩, .string ⟨#[]⟩, .string ⟨#[]⟩, .string ⟨#[]⟩, .string ⟨#[]⟩, .string ⟨#[]⟩])) 32) = w1 at *
 generalize hs_b4 : w.heap.size = b4 at *
 refine KGO ?_
 obtain ⟨a_b5, v_b5, k_w2, z_w2, r_w2⟩ := new5 w1 32 ([.string ⟨#[]⟩, .string ⟨#[]⟩, .string ⟨#[]⟩, .string ⟨#[]⟩, .string ⟨#[]⟩, .string ⟨#[]⟩])
 generalize w1.alloc (.cells (List.toArray ([.string ⟨#[]⟩, .string ⟨#[]⟩, .string ⟨#[]⟩, .string ⟨#[]⟩, .string ⟨#[]⟩, .string ⟨#[]⟩])) 32) = w2 at *
 generalize hs_b5 : w1.heap.size = b5 at *
 have v4 := v_b4.keep0 k_w2
 refine KGO ?_
 refine Store.cellK (i := 3) v_b5 (by simp) (by rfl) ⟨rfl, by simp, by simp⟩ fun w3 v3 k3 => ?_
 refine KGO ?_
 refine Store.cellK (i := 4) v3 (by simp) (by rfl) ⟨rfl, by simp, by simp⟩ fun w4 v5 k4 => ?_
 have a5 := v5.at
 have q4 := Kp.refl w4 n_
 have v44 := (v4.keep k3 (show ¬ b4 = b5 by omega)).keep k4 (show ¬ b4 = b5 by omega)
 have K4 : Kp w w4 n_ := zah (zah (k_w1.trans0 k_w2) k3 (by omega)) k4 (by omega)
 refine KGO ?_
 refine Store.varK [.string ⟨#[]⟩, .string ⟨#[]⟩, .string ⟨#[]⟩, .string (str s), .string (str t), .string ⟨#[]⟩] v44 (by rfl) rfl (zar (by rfl)) fun w5 v6 k5 => ?_
 have a6 := v6.at
 have q5 := Kp.refl w5 n_
 refine KGO ?_
 refine GW ?_
 refine KGO ?_
 refine GW ?_
 exact ⟨rfl, zah K4 k5 (by omega)⟩
theorem bs2T (a c : ByteArray) (w : World) : (Instr.buildSlice 48 2 [(0, .string a), (1, .string c)].toArray).run Tryz.prog w = .ok (.slice (some ⟨w.heap.size, 0, none⟩) 2 2) (w.alloc (.cells (List.toArray [.string a, .string c]) 9)) := by
 simp [Instr.buildSlice, Instr.fill, go_sem, Tryz.runUnderlying48]
theorem zeU {x : Ix} {N Q Z : Nat} (h : Iw x N Q Z) (hN : N ≤ 1000) : LookB x := fun f q => by
 obtain ⟨h1, h2⟩ := ziN h.ok h.wt f q
 exact ⟨by omega, fun p hp => by have := h2 p hp; omega⟩
theorem zir {a : Option Addr} {n c : Nat} (h : n ≤ c) : CapK (.slice a n c) := fun a' n' c' e => by
 injection e with _ e1 e2
 omega
theorem zjk {w : World} {b : Nat} {x y : List UInt8} (h : At w b 0 [.string (str x), .string (str y)]) (hb : b < w.heap.size) : RowO w (.slice (some ⟨b, 0, none⟩) 2 2) txC [x, y] := ⟨_, 2, rfl, fun _ => ⟨b, 0, rfl, hb, h⟩⟩
theorem zsF {x : Ix} {N Q Z : Nat} (h : Iw x N Q Z) (hN : N ≤ 1000) (hQ : Q ≤ 20000) (hZ : Z ≤ 100000) : SerB x := by
 have hb := h.b hN hQ
 have hl := h.len hN hZ
 refine ⟨fun s hs => ⟨zli (hb.b s hs) (by omega) (by omega) (by omega), by have := (hb.b s hs).d; omega⟩, by have := hb.n; omega, by have := hb.d; omega, fun d hd => ?_, by omega⟩
 have := zgX h.ok d hd
 omega
theorem MutX.out {w' : World} {b g : Nat} {sv dv sv' dv' : Sl} {l l' : List (Sv × Sgm)} (m : MutX w w' b sv dv l sv' dv' l') (h : ¬ fpX b sv dv l g) (hl : g < w.heap.size) : ¬ fpX b sv' dv' l' g := fun e => (m.f g e).elim h fun e => by omega
theorem zmj (hE : CEnv w) : Calls Tryz.prog 11 #[] w fun e w' => e = .returned (.bool true) ∧ Kp w w' n_ := by
 refine zaa (args := []) Tryz.func11 rfl NL ?_; refine GW ?_
 refine CallS.of (Tryz.call16 _ _) (zrd (w := w)) ?_
 rintro e w1 ⟨rfl, h1, k1⟩
 obtain ⟨b, hb⟩ : ∃ b, w.heap.size = b := ⟨_, rfl⟩
 rw [hb] at h1 ⊢
 have B1 : Bs w w1 b ⟨none, 0, 0⟩ ⟨none, 0, 0⟩ [] := ⟨k1, fun q e => by have := h1.fp_ge q e; omega, hE⟩
 refine RT ?_
 refine KGO ?_
 refine CallS.of (Tryz.call49 _ _) (zdU (w := w1) [97, 32, 98] [120]) ?_
 rintro e w2 ⟨rfl, k2⟩
 refine RT ?_
 refine CallS.of (Tryz.call24 _ _) (ziO (w := w2) (h1.keep0 k2) (Iw.empty.b (by omega) (by omega)) (B1.keep k2) 3 [] [] [] [97, 32, 98] [120] [] (by decide) (by decide)) ?_
 rintro e w3 ⟨rfl, sv3, dv3, l3, h3, M3⟩
 have B3 := (B1.keep k2).mut M3
 rw [show addX emptyX 3 [[], [], [], [97, 32, 98], [120], []] = (0, ⟨[sA], []⟩) from sm_a] at h3 ⊢
 dsimp only at h3 ⊢
 refine RT ?_
 refine KGO ?_
 refine CallS.of (Tryz.call49 _ _) (zdU (w := w3) [98, 32, 97] [97, 32, 98]) ?_
 rintro e w4 ⟨rfl, k4⟩
 refine RT ?_
 refine CallS.of (Tryz.call24 _ _) (ziO (w := w4) (h3.keep0 k4) (iw_1.b (by omega) (by omega)) (B3.keep k4) 5 [] [] [] [98, 32, 97] [97, 32, 98] [] (by decide) (by decide)) ?_
 rintro e w5 ⟨rfl, sv5, dv5, l5, h5, M5⟩
 have B5 := (B3.keep k4).mut M5
 rw [show addX ⟨[sA], []⟩ 5 [[], [], [], [98, 32, 97], [97, 32, 98], []] = (0, ⟨[sA, sB], []⟩) from sm_b] at h5 ⊢
 dsimp only at h5 ⊢
 clear M3 M5 B1 B3 h1 h3 k1 k2 k4
 refine RT ?_
 refine KGO ?_
 refine CallS.of (Tryz.call49 _ _) (zdU (w := w5) [] []) ?_
 rintro e w6 ⟨rfl, k6⟩
 refine RT ?_
 refine CallS.of (Tryz.call24 _ _) (ziO (w := w6) (h5.keep0 k6) (iw_2.b (by omega) (by omega)) (B5.keep k6) 3 [] [] [] [] [] [] (by decide) (by decide)) ?_
 rintro e w7 ⟨rfl, sv7, dv7, l7, h7, M7⟩
 have B7 := (B5.keep k6).mut M7
 rw [sm_c] at h7 ⊢
 dsimp only at h7 ⊢
 refine RT ?_
 refine KGO ?_
 refine CallS.of (Tryz.call49 _ _) (zdU (w := w7) [] []) ?_
 rintro e w8 ⟨rfl, k8⟩
 refine RT ?_
 refine CallS.of (Tryz.call24 _ _) (ziO (w := w8) (h7.keep0 k8) (iw_2.b (by omega) (by omega)) (B7.keep k8) 0 [] [] [] [] [] [] (by decide) (by decide)) ?_
 rintro e w9 ⟨rfl, sv9, dv9, l9, h9, M9⟩
 have B9 := (B7.keep k8).mut M9
 rw [sm_e] at h9 ⊢
 dsimp only at h9 ⊢
 clear M7 M9 B5 B7 h5 h7 k6 k8
 refine RT ?_
 refine KGO ?_
 refine RunV.of (bs2T _ _ _) ?_
 obtain ⟨a_b10, v_b10, k_w10, z_w10, r_w10⟩ := new5 w9 9 ([.string ⟨#[97]⟩, .string ⟨#[98]⟩])
 generalize w9.alloc (.cells (List.toArray ([.string ⟨#[97]⟩, .string ⟨#[98]⟩])) 9) = w10 at *
 generalize hs_b10 : w9.heap.size = b10 at *
 have h10 := h9.keep0 k_w10
 have B10 := B9.keep k_w10
 have hr10 := zjk (x := [97]) (y := [98]) a_b10 (by omega)
 clear h9 B9 a_b10 v_b10
 refine KGO ?_
 refine CallS.of (Tryz.call37 _ _) (zeh (w := w10) h10 (iw_2.b (by omega) (by omega)) B10.env (zeU iw_2 (by omega)) 0 [[97], [98]] hr10 (zir (by omega)) (by decide)) ?_
 rintro e w11 ⟨v11, rfl, o11, k11⟩
 rw [ztb] at o11
 obtain ⟨a11, c11, rfl⟩ := zab o11
 rw [show ([3, 5] : List Int).length = 2 from rfl]
 have h11 := h10.keep0 k11
 have B11 := B10.keep k11
 clear o11 h10 B10 hr10
 refine RT ?_
 refine KGO ?_
 refine RunV.of (bs2T _ _ _) ?_
 obtain ⟨a_b12, v_b12, k_w12, z_w12, r_w12⟩ := new5 w11 9 ([.string ⟨#[98]⟩, .string ⟨#[97]⟩])
 generalize w11.alloc (.cells (List.toArray ([.string ⟨#[98]⟩, .string ⟨#[97]⟩])) 9) = w12 at *
 generalize hs_b12 : w11.heap.size = b12 at *
 have h12 := h11.keep0 k_w12
 have B12 := B11.keep k_w12
 have hr12 := zjk (x := [98]) (y := [97]) a_b12 (by omega)
 clear h11 B11 a_b12 v_b12
 refine KGO ?_
 refine CallS.of (Tryz.call37 _ _) (zeh (w := w12) h12 (iw_2.b (by omega) (by omega)) B12.env (zeU iw_2 (by omega)) 3 [[98], [97]] hr12 (zir (by omega)) (by decide)) ?_
 rintro e w13 ⟨v13, rfl, o13, k13⟩
 rw [zsV] at o13
 obtain ⟨a13, c13, e13, hr13⟩ := zao o13
 subst e13
 rw [show ([5] : List Int).length = 1 from rfl] at *
 obtain ⟨g13, p13, rfl, hg13, at13⟩ := hr13 (by omega)
 have hg13' := (o13.lt g13 rfl).1
 have h13 := h12.keep0 k13
 have B13 := B12.keep k13
 have n13 : ¬ fpX b sv9 dv9 l9 g13 := fun e => by have := h12.fp_lt g13 e; omega
 clear o13 h12 B12 hr12 hr13
 refine RT ?_
 refine KGO ?_
 refine CallS.of (Tryz.call22 _ _) (zjD (w := w13) h13 (iw_2.b (by omega) (by omega)) 3) ?_
 rintro e w14 ⟨rfl, sv14, dv14, l14, h14, M14⟩
 have B14 := B13.mut M14
 have at14 := zaH at13 M14.k n13
 have n14 := M14.out n13 hg13
 have hg14 : g13 < w14.heap.size := by have := M14.k.size; omega
 rw [sm_d] at h14 ⊢
 dsimp only at h14 ⊢
 clear M14 B13 h13 at13 n13
 refine RT ?_
 refine KGO ?_
 refine CallS.of (Tryz.call22 _ _) (zjD (w := w14) h14 (iw_3.b (by omega) (by omega)) 3) ?_
 rintro e w15 ⟨rfl, sv15, dv15, l15, h15, M15⟩
 have B15 := B14.mut M15
 have at15 := zaH at14 M15.k n14
 have hg15 : g13 < w15.heap.size := by have := M15.k.size; omega
 rw [sm_d2] at h15 ⊢
 dsimp only at h15 ⊢
 clear M15 B14 h14 at14 n14
 refine RT ?_
 refine KGO ?_
 refine RunV.of (bs2T _ _ _) ?_
 obtain ⟨a_b16, v_b16, k_w16, z_w16, r_w16⟩ := new5 w15 9 ([.string ⟨#[97]⟩, .string ⟨#[98]⟩])
 generalize w15.alloc (.cells (List.toArray ([.string ⟨#[97]⟩, .string ⟨#[98]⟩])) 9) = w16 at *
 generalize hs_b16 : w15.heap.size = b16 at *
 have h16 := h15.keep0 k_w16
 have B16 := B15.keep k_w16
 have hr16 := zjk (x := [97]) (y := [98]) a_b16 (by omega)
 clear h15 B15 a_b16 v_b16
 refine KGO ?_
 refine CallS.of (Tryz.call37 _ _) (zeh (w := w16) h16 (iw_3.b (by omega) (by omega)) B16.env (zeU iw_3 (by omega)) 0 [[97], [98]] hr16 (zir (by omega)) (by decide)) ?_
 rintro e w17 ⟨v17, rfl, o17, k17⟩
 rw [zqf] at o17
 obtain ⟨a17, c17, rfl⟩ := zab o17
 rw [show ([5] : List Int).length = 1 from rfl]
 have h17 := h16.keep0 k17
 have B17 := B16.keep k17
 have at17 := zai (zai at15 k_w16) k17
 clear o17 h16 B16 hr16
 refine RT ?_
 refine KGO ?_
 refine CallS.of (Tryz.call19 _ _) (zhi (w := w17) h17 (iw_3.b (by omega) (by omega)) B17.env 4 [97]) ?_
 rintro e w18 ⟨v18, rfl, o18, k18⟩
 obtain ⟨p, hp, hpd⟩ := zsy
 rw [hp] at o18
 obtain ⟨lx, hlx, hxo⟩ := o18
 obtain ⟨y, rfl⟩ : ∃ y, lx = [y] := by
  match lx, hlx with
  | [y], _ => exact ⟨y, rfl⟩
  | [], h => simp at h
  | _ :: _ :: _, h => simp at h
 have hyd : y.p.doc = 5 := by rw [← hpd]; simp at hlx; rw [hlx]
 obtain ⟨a18, c18, e18, hr18⟩ := zao hxo.row
 subst e18
 rw [show [y].length = 1 from rfl] at *
 obtain ⟨g18, p18, rfl, hg18, at18⟩ := hr18 (by omega)
 have h18 := h17.keep0 k18
 have B18 := B17.keep k18
 have at13 := zai at17 k18
 have at18 : At w18 g18 p18 [.int .i64 5, .slice y.h.a y.h.n y.h.c] := by rw [← hyd]; simpa [prC] using at18
 have at13 : At w18 g13 p13 [.int .i64 5] := by simpa [inC] using at13
 have hg13 : g13 < w18.heap.size := by have := k_w16.size; have := k17.size; have := k18.size; omega
 have hdl : (⟨[sA, sB], [3]⟩ : Ix).dead = [3] := rfl
 clear h17 B17 at17 at15 hxo hlx hr18 hp k18 k17 k_w16
 refine RT ?_
 refine KGO ?_
 refine CallS.of (Tryz.call14 _ _) (zkJ (w := w18) (x := ⟨[sA, sB], [3]⟩) h18.v (zao h18.dd) h18.eq (zsF iw_3 (by omega) (by omega) (by omega)) B18.env) ?_
 rintro e w19 ⟨rfl, k19⟩
 have hlen := iw_3.len (by omega) (by omega)
 refine RT ?_
 refine CallS.of (Tryz.call12 _ _) (zsu (w := w19) (serX ⟨[sA, sB], [3]⟩) (by omega) (B18.keep k19).env) ?_
 rw [zqt iw_3.ok (by omega)]
 rintro e w20 ⟨⟨c, sv20, dv20, l20, rfl, hcw, h20⟩, k20⟩
 have at13 := zai (zai at13 k19) k20
 have at18 := zai (zai at18 k19) k20
 have K20 := (B18.K.trans0 k19).trans0 k20
 have z19 := k19.size
 have n13 : ¬ fpX c sv20 dv20 l20 g13 := fun e => by have := h20.fp_ge g13 e; omega
 have n18 : ¬ fpX c sv20 dv20 l20 g18 := fun e => by have := h20.fp_ge g18 e; omega
 have B20 : Bs w w20 c sv20 dv20 l20 := ⟨K20, fun q e => by have := h20.fp_ge q e; have := B18.K.size; omega, hE⟩
 clear B18 h18 k19 k20
 refine RT ?_
 refine KGO ?_
 refine CallS.of (Tryz.call31 _ _) (znl (w := w20) h20 (iw_3.b (by omega) (by omega)) B20.env) ?_
 rintro e w21 ⟨rfl, sv21, dv21, l21, h21, M21⟩
 have at13 := zaH at13 M21.k n13
 have at18 := zaH at18 M21.k n18
 have B21 := B20.mut M21
 rw [zor] at h21 ⊢
 dsimp only at h21 ⊢
 clear M21 B20 h20 n13 n18
 refine RT ?_
 refine KGO ?_
 refine CallS.of (Tryz.call39 _ _) (zrG (w := w21) h21 (by decide) (by decide)) ?_
 rintro e w22 ⟨rfl, k22⟩
 have h22 := h21.keep0 k22
 have B22 := B21.keep k22
 have at13 := zai at13 k22
 have at18 := zai at18 k22
 have q22 := Kp.refl w22 n_
 clear h21 B21 k22
 refine RT ?_
 refine KGO ?_
 refine CallS.of (Tryz.call21 _ _) (zmT (w := w22) h22 (iw_4.b (by omega) (by omega))) ?_
 rintro e w23 ⟨v23, rfl, o23, k23⟩
 rw [zrp] at o23
 obtain ⟨a23, c23, rfl⟩ := zab o23
 rw [show ([5] : List Int).length = 1 from rfl]
 refine RT ?_
 refine KGO ?_
 exact ⟨rfl, B22.K.trans0 k23⟩
end
structure Am where
 op : Int
 doc : Int
 t0 : List UInt8
 t1 : List UInt8
 t2 : List UInt8
 t3 : List UInt8
 t4 : List UInt8
 t5 : List UInt8
 field : Int
 word : List UInt8
 words : List (List UInt8)
deriving Inhabited
def Am.tx (a : Am) : List (List UInt8) := [a.t0, a.t1, a.t2, a.t3, a.t4, a.t5]
def Am.ak (a : Am) : Ak := ⟨a.op % 8, a.doc, a.tx, a.field, a.word, a.words⟩
def actC (p : Sl × Am) : List Value := [.int .i64 p.2.op, .int .i64 p.2.doc, .string (str p.2.t0), .string (str p.2.t1), .string (str p.2.t2), .string (str p.2.t3), .string (str p.2.t4), .string (str p.2.t5), .int .i64 p.2.field, .string (str p.2.word), .slice p.1.a p.1.n p.1.c]
structure RowA (w : World) (v : Value) (lx : List (Sl × Am)) : Prop where
 row : RowO w v actC lx
 ws : ∀ p ∈ lx, RowO w p.1.v txC p.2.words
 cp : ∀ p ∈ lx, CapK p.1.v
theorem RowA.keep {w w' : World} {v : Value} {lx : List (Sl × Am)} (h : RowA w v lx) (k : Kp w w' n_) : RowA w' v lx := ⟨h.row.keep k, fun p hp => (h.ws p hp).keep k, h.cp⟩
def sumT (l : List (List UInt8)) : Nat := (l.map List.length).sum
def wA (a : Am) : Nat := sumT a.tx + a.word.length + 10 * a.words.length + sumT a.words
def wAs (l : List Am) : Nat := (l.map wA).sum
theorem ziw {l : List (List UInt8)} {i : Nat} (h : i < l.length) : sumT (l.take (i + 1)) = sumT (l.take i) + l[i].length := by
 unfold sumT
 rw [List.take_succ_eq_append_getElem h, List.map_append, List.sum_append]; simp
theorem zhb (l : List (List UInt8)) (i : Nat) : sumT (l.take i) ≤ sumT l := by
 unfold sumT
 conv => rhs; rw [← List.take_append_drop i l, List.map_append, List.sum_append]
 omega
theorem zec {l : List Am} {i : Nat} (h : i < l.length) : wAs (l.take (i + 1)) = wAs (l.take i) + wA l[i] := by
 unfold wAs
 rw [List.take_succ_eq_append_getElem h, List.map_append, List.sum_append]; simp
theorem zeF (l : List Am) (i : Nat) : wAs (l.take i) ≤ wAs l := by
 unfold wAs
 conv => rhs; rw [← List.take_append_drop i l, List.map_append, List.sum_append]
 omega
theorem zcE (a : Am) : lenX a.tx = sumT a.tx := by
 unfold sumT
 show a.t0.length + a.t1.length + a.t2.length + a.t3.length + a.t4.length + a.t5.length = _
 unfold Am.tx
 simp only [List.map_cons, List.map_nil, List.sum_cons, List.sum_nil]
 omega
theorem zta (p : Sl × Am) (f : Nat) (h : f < 6) : (actC p)[2 + f]? = some (.string (str (p.2.tx.getD f []))) := by
 match f, h with
 | 0, _ => rfl
 | 1, _ => rfl
 | 2, _ => rfl
 | 3, _ => rfl
 | 4, _ => rfl
 | 5, _ => rfl
theorem lenAct (p : Sl × Am) : (actC p).length = 11 := rfl
section
variable {w : World}
theorem zpY {v : Value} (lx : List (Sl × Am)) (hv : RowA w v lx) (hl : lx.length ≤ 1000000000) (hw : wAs (lx.map (·.2)) ≤ 1000000000) :
  Calls Tryz.prog 17 #[v] w fun e w' => e = .returned (.bool (decide (lx.length ≤ 30 ∧ wAs (lx.map (·.2)) ≤ 1500))) ∧ Kp w w' n_ := by
 obtain ⟨⟨a, cap, rfl, hr⟩, hws, _⟩ := hv
 refine zaa (args := [.slice a lx.length cap]) Tryz.func17 rfl NL ?_; refine GW ?_
 refine Loop.intro (ι := Nat) (fun i => [(0, .slice a lx.length cap), (3, .int .i64 (wAs ((lx.map (·.2)).take i) : Nat)), (4, .int .i64 (i : Nat))])
  (fun i wr => Kp w wr n_ ∧ i ≤ lx.length) (fun i => lx.length - i) 0 ⟨rfl, rfl, rfl, trivial⟩ ⟨Kp.refl _ _, Nat.zero_le _⟩ ?_
 rintro i gg wr ⟨hK, hi⟩
 have hwi := zeF (lx.map (·.2)) i
 refine GW ?_
 by_cases hlt : i < lx.length
 ·obtain ⟨gb, o, rfl, hgb, hat⟩ := hr (by omega)
  have hat := zai hat hK
  have hst := zec (l := lx.map (·.2)) (i := i) (by simpa using hlt)
  rw [List.getElem_map] at hst
  have hwi2 := zeF (lx.map (·.2)) (i + 1)
  have hWW := hws lx[i] (List.getElem_mem hlt)
  have hwn : lx[i].1.n = lx[i].2.words.length := RowO.len hWW
  have hwe : wA lx[i].2 = sumT lx[i].2.tx + lx[i].2.word.length + 10 * lx[i].2.words.length + sumT lx[i].2.words := rfl
  rw [hst, hwe] at hwi2
  generalize hN0 : wAs ((lx.map (·.2)).take i) = N0 at *
  refine KGO ?_
  refine Loop.intro (ι := Nat) (fun f => [(0, .slice (some ⟨gb, o, none⟩) lx.length cap), (3, .int .i64 ((N0 + sumT (lx[i].2.tx.take f) : Nat) : Int)), (4, .int .i64 (i : Nat)), (5, .int .i64 (f : Nat))])
   (fun f wk => Kp wr wk n_ ∧ f ≤ 6) (fun f => 6 - f) 0 ⟨rfl, by rfl, rfl, rfl, trivial⟩ ⟨Kp.refl _ _, Nat.zero_le _⟩ ?_
  rintro f gf wk ⟨hKf, hf⟩
  have hsf := zhb lx[i].2.tx f
  refine GW ?_
  by_cases hft : f < 6
  ·have ct : wk.cell? ⟨gb, o + i * 11 + 2 + f, none⟩ = some (.string (str (lx[i].2.tx.getD f []))) := by
    have := zdk (zai hat hKf) lenAct hlt (2 + f) _ (zta _ f hft)
    rwa [← Nat.add_assoc] at this
   have hz : (str (lx[i].2.tx.getD f [])).size = (lx[i].2.tx.getD f []).length := rfl
   have h6 : lx[i].2.tx.length = 6 := rfl
   have hgd : lx[i].2.tx.getD f [] = lx[i].2.tx[f]'(by omega) := by simp [List.getD, show f < lx[i].2.tx.length by omega]
   have hsf2 := ziw (l := lx[i].2.tx) (i := f) (by omega)
   have hsf3 := zhb lx[i].2.tx (f + 1)
   rw [← hgd] at hsf2
   generalize lx[i].2.tx.getD f [] = T at *
   refine KGO ?_
   exact ⟨f + 1, ⟨rfl, v_int (by rw [hsf2]; omega), rfl, v_int (by simp), trivial⟩, ⟨hKf, by omega⟩, by dsimp only; omega⟩
  obtain rfl : f = 6 := by omega
  rw [show lx[i].2.tx.take 6 = lx[i].2.tx from rfl] at hsf ⊢
  have hat2 := zai hat hKf
  have qk := Kp.refl wk n_
  have hz : (str lx[i].2.word).size = lx[i].2.word.length := rfl
  refine KGO ?_
  have Kk := (hK.trans0 hKf).drew
  have hat3 : At wk.drew gb o (lx.flatMap actC) := hat2
  clear hat hat2
  generalize wk.drew = wd at *
  refine Loop.intro (ι := Nat) (fun j => [(0, .slice (some ⟨gb, o, none⟩) lx.length cap), (3, .int .i64 ((N0 + sumT lx[i].2.tx + lx[i].2.word.length + 10 * lx[i].2.words.length + sumT (lx[i].2.words.take j) : Nat) : Int)), (4, .int .i64 (i : Nat)), (6, .int .i64 (j : Nat))])
   (fun j wk => Kp wd wk n_ ∧ j ≤ lx[i].2.words.length) (fun j => lx[i].2.words.length - j) 0 ⟨rfl, v_int (by rw [hwn, hz]; unfold sumT; simp), rfl, rfl, trivial⟩ ⟨Kp.refl _ _, Nat.zero_le _⟩ ?_
  rintro j gj wj ⟨hKj, hj⟩
  have hsj := zhb lx[i].2.words j
  have hat4 := zai hat3 hKj
  have qj := Kp.refl wj n_
  refine GW ?_
  by_cases hjt : j < lx[i].2.words.length
  ·obtain ⟨ra, rc, re, rh⟩ := hWW
   obtain ⟨g2, o2, rfl, hg2, hat2⟩ := rh (by omega)
   injection re with re _ _
   have hat2 := zai hat2 (Kk.trans0 hKj)
   have ct := ziT hat2 hjt
   have hsj2 := ziw hjt
   have hsj3 := zhb lx[i].2.words (j + 1)
   have hz2 : (str lx[i].2.words[j]).size = lx[i].2.words[j].length := rfl
   clear hat2
   refine KGO ?_
   rw [re]
   refine KGO ?_
   exact ⟨j + 1, ⟨rfl, v_int (by rw [hsj2, hz2]; omega), rfl, v_int (by simp), trivial⟩, ⟨hKj, by omega⟩, by dsimp only; omega⟩
  obtain rfl : j = lx[i].2.words.length := by omega
  refine KGO ?_
  exact ⟨i + 1, ⟨rfl, v_int (by rw [hst, hwe, List.take_length]; omega), v_int (by simp), trivial⟩, ⟨Kk.trans0 hKj, by omega⟩, by dsimp only; omega⟩
 obtain rfl : i = lx.length := by omega
 rw [List.take_of_length_le (by simp)] at *
 by_cases h30 : lx.length ≤ 30
 ·refine KGO ?_
  exact ⟨zal (by simp [h30]; omega), hK⟩
 ·refine KGO ?_
  exact ⟨zal (by simp [h30]), hK⟩
end
def t6C (a : Am) : List Value := [.string (str a.t0), .string (str a.t1), .string (str a.t2), .string (str a.t3), .string (str a.t4), .string (str a.t5)]
structure TwoX (w0 w : World) (b : Nat) (sv dv : Sl) (l : List (Sv × Sgm)) (x : Ix) (c : Nat) (sv2 dv2 : Sl) (l2 : List (Sv × Sgm)) (y : Ix) : Prop where
 hx : IxM w b sv dv l x
 hy : IxM w c sv2 dv2 l2 y
 bx : Bs w0 w b sv dv l
 by_ : Bs w0 w c sv2 dv2 l2
 d : ∀ q, fpX b sv dv l q → ¬ fpX c sv2 dv2 l2 q
section
variable {w0 w w' : World} {b c : Nat} {sv dv sv2 dv2 sv' dv' : Sl} {l l2 l' : List (Sv × Sgm)} {x y x' y' : Ix}
theorem TwoX.keep (h : TwoX w0 w b sv dv l x c sv2 dv2 l2 y) (k : Kp w w' n_) : TwoX w0 w' b sv dv l x c sv2 dv2 l2 y := ⟨h.hx.keep0 k, h.hy.keep0 k, h.bx.keep k, h.by_.keep k, h.d⟩
end
theorem zlS {P N Q : Nat} {x : Ix} (hx : IxOk x) (h : WtS P x.segs N Q) (field : Int) (ws : List (List UInt8)) : (phraseX x field ws).length ≤ N :=
 Nat.le_trans (zcI (zdu x field ws) fun d hd => zdv hx hd) (zlv hx h).2.2.2
section
end
theorem and7 (n : Int) : IntKind.i64.wrap ((BitVec.ofInt IntKind.i64.bits n &&& BitVec.ofInt IntKind.i64.bits 7).toNat : Nat) = n % 8 := by
 show IntKind.i64.wrap ((BitVec.ofInt 64 n &&& BitVec.ofInt 64 7).toNat : Nat) = n % 8
 have h3 : (BitVec.ofInt 64 7).toNat = 2 ^ 3 - 1 := by decide
 have key : (BitVec.ofInt 64 n &&& BitVec.ofInt 64 7).toNat = (n % ((2 ^ 64 : Nat) : Int)).toNat % 2 ^ 3 := by
  rw [BitVec.toNat_and, BitVec.toNat_ofInt, h3, Nat.and_two_pow_sub_one_eq_mod]
 rw [key, IntKind.wrap_i64]
 omega
def dcC (a : Am) : List Value := .int .i64 a.doc :: t6C a
def Am.ld (a : Am) : LDoc := (a.doc, a.tx)
theorem lenDc (a : Am) : (dcC a).length = 7 := rfl
theorem infoDc : (Tryz.prog.info? 69).map (fun i => (i.zero, i.size, i.bytes)) = some (some (.agg #[.int .i64 0, .string ⟨#[]⟩, .string ⟨#[]⟩, .string ⟨#[]⟩, .string ⟨#[]⟩, .string ⟨#[]⟩, .string ⟨#[]⟩]), 7, 104) := by kernel_rfl
theorem tyDc : RowTy 35 69 dcC 7 104 := ⟨Tryz.underlying35, ⟨_, infoDc, rfl⟩, by decide, lenDc, fun x => List.all_eq_true.1 (by rfl)⟩
theorem zqr (a : Am) (w : World) : (Instr.build 69 [(0, .int .i64 a.doc), (1, .agg (t6C a).toArray)].toArray).run Tryz.prog w = .ok (.agg (dcC a).toArray) w := by
 simp [Instr.build, go_sem, Tryz.runUnderlying69, t6C, dcC]
theorem bs1Dc (a : Am) (w : World) : (Instr.buildSlice 35 1 [(0, .agg (dcC a).toArray)].toArray).run Tryz.prog w = .ok (.slice (some ⟨w.heap.size, 0, none⟩) 1 1) (w.alloc (.cells (List.toArray (dcC a)) 69)) := by
 simp [Instr.buildSlice, Instr.fill, go_sem, Tryz.runUnderlying35, dcC, t6C]
theorem IxM.notD {w : World} {b : Nat} {sv dv : Sl} {l : List (Sv × Sgm)} {x : Ix} (h : IxM w b sv dv l x) {D : List TypeId} (h1 : 84 ∉ D) (h2 : 65 ∉ D) (h3 : 3 ∉ D) (h4 : 141 ∉ D) : ∀ q, q < w.heap.size → fpX b sv dv l q → notD D w q := fun q hq e => by
 rcases e with rfl | e | e | ⟨p, hp, e | e⟩
 ·exact zaj h.var h1 q hq rfl
 ·exact zaG h.sg h2 q hq e
 ·exact zaG h.dd h3 q hq e
 ·exact zaG (h.el p hp).t h4 q hq e
 ·exact zaG (h.el p hp).d h3 q hq e
theorem IxM.out {w : World} {b : Nat} {sv dv : Sl} {l : List (Sv × Sgm)} {x : Ix} {B : Nat} {v : Value} {L : List Am} (h : IxM w b sv dv l x) (ho : OwnR 69 dcC 7 w B v L) : ∀ q, fpX b sv dv l q → ¬ own_ v q := fun q e e' => by
 obtain ⟨cs, z, hh, _, hlt⟩ := zas ho e'
 exact h.notD (D := [69]) (by decide) (by decide) (by decide) (by decide) q hlt e _ _ _ hh (by simp)
def runA (lx : List (Sl × Am)) (i : Nat) : Ix × List LDoc := ((lx.map (·.2.ak)).take i).foldl runS (emptyX, [])
theorem zdd {lx : List (Sl × Am)} {i : Nat} (h : i < lx.length) : runA lx (i + 1) = runS (runA lx i) lx[i].2.ak := by
 unfold runA
 rw [List.take_succ_eq_append_getElem (by simpa using h), List.foldl_append, List.getElem_map]; rfl
theorem zkT (lx : List (Sl × Am)) : runA lx lx.length = runX emptyX (lx.map (·.2.ak)) := by
 unfold runA
 rw [List.take_of_length_le (by simp)]; rfl
theorem ztq {p : Ix × List LDoc} {N Q Z : Nat} (h : Iw p.1 N Q Z) (a : Am) (hL : wA a ≤ 1500) : Iw (runS p a.ak).1 (N + 5) (Q + (10 * wA a + 15)) (Z + (8 * wA a + 20)) := by
 have hs : lenX a.tx ≤ wA a := by rw [zcE]; unfold wA; omega
 unfold runS
 split
 ·exact (h.add (doc := a.doc) (tx := a.tx) rfl (by omega)).mono (Nat.le_refl _) (by omega) (by omega)
 ·split
  ·exact (h.drop a.doc).mono (by omega) (by omega) (by omega)
  ·exact h.step.mono (by omega) (by omega) (by omega)
theorem zoj {lx : List (Sl × Am)} (hw : wAs (lx.map (·.2)) ≤ 1500) : ∀ i, i ≤ lx.length → Iw (runA lx i).1 (5 * i) (10 * wAs ((lx.map (·.2)).take i) + 15 * i) (8 * wAs ((lx.map (·.2)).take i) + 20 * i) := by
 intro i
 induction i with
 | zero => intro _; exact Iw.empty.mono (by omega) (by omega) (by omega)
 | succ i ih =>
  intro hi
  have h1 := zec (l := lx.map (·.2)) (i := i) (by rw [List.length_map]; omega)
  rw [List.getElem_map] at h1
  have h2 := zeF (lx.map (·.2)) (i + 1)
  rw [zdd (by omega)]
  exact (ztq (ih (by omega)) lx[i].2 (by omega)).mono (by omega) (by omega) (by omega)
theorem zjm {lx : List (Sl × Am)} (hw : wAs (lx.map (·.2)) ≤ 1500) : ∀ i, i ≤ lx.length → RunOk (runA lx i) := by
 intro i
 induction i with
 | zero => intro _; exact ziR
 | succ i ih =>
  intro hi
  have h1 := zec (l := lx.map (·.2)) (i := i) (by rw [List.length_map]; omega)
  rw [List.getElem_map] at h1
  have h2 := zeF (lx.map (·.2)) (i + 1)
  have hs : lenX lx[i].2.tx ≤ wA lx[i].2 := by rw [zcE]; unfold wA; omega
  rw [zdd (by omega)]
  exact zjy (ih (by omega)) _ fun t ht => by have := zcP (tx := lx[i].2.tx) rfl t ht; omega
theorem at_tx {w : World} {b : Nat} {p : Sl × Am} (h : At w b 0 (actC p)) : At w b (0 + 2) (t6C p.2) := fun j u hj => by
 have hl : j < 6 := (List.getElem?_eq_some_iff.1 hj).1
 have h2 := h (2 + j) u (by
  match j, hl with
  | 0, _ => exact hj
  | 1, _ => exact hj
  | 2, _ => exact hj
  | 3, _ => exact hj
  | 4, _ => exact hj
  | 5, _ => exact hj)
 rw [← Nat.add_assoc] at h2
 exact h2
section
variable {w : World}
theorem zpo {w0 : World} {b : Nat} {sv0 dv0 : Sl} {l0 : List (Sv × Sgm)} {v : Value} (lx : List (Sl × Am)) (h0 : IxM w b sv0 dv0 l0 emptyX) (B0 : Bs w0 w b sv0 dv0 l0) (hA : ∀ u, Kp w u (fpX b sv0 dv0 l0) → RowA u v lx) (hd : ∀ p ∈ lx, -9223372036854775808 ≤ p.2.doc ∧ p.2.doc ≤ 9223372036854775807) (h30 : lx.length ≤ 30) (hw : wAs (lx.map (·.2)) ≤ 1500) :
  Calls Tryz.prog 18 #[.pointer (some ⟨b, 0, none⟩), v] w fun e w' => ∃ v' L sv' dv' l', e = .returned v' ∧ OwnR 69 dcC 7 w' w.heap.size v' L ∧ L.map Am.ld = (runX emptyX (lx.map (·.2.ak))).2 ∧ IxM w' b sv' dv' l' (runX emptyX (lx.map (·.2.ak))).1 ∧ MutX w w' b sv0 dv0 l0 sv' dv' l' := by
 obtain ⟨a, cap, rfl, _⟩ := (hA w (Kp.refl _ _)).row
 refine zaa (args := [.pointer (some ⟨b, 0, none⟩), .slice a lx.length cap]) Tryz.func18 rfl NL ?_; refine GW ?_
 refine Loop.intro (ι := Nat × (Sl × List Am) × (Sl × Sl × List (Sv × Sgm))) (fun q => [(0, .pointer (some ⟨b, 0, none⟩)), (1, .slice a lx.length cap), (5, .slice q.2.1.1.a q.2.1.1.n q.2.1.1.c), (6, .int .i64 (q.1 : Nat))])
  (fun q wr => q.1 ≤ lx.length ∧ OwnR 69 dcC 7 wr w.heap.size q.2.1.1.v q.2.1.2 ∧ q.2.1.2.map Am.ld = (runA lx q.1).2 ∧ q.2.1.2.length ≤ q.1 ∧ IxM wr b q.2.2.1 q.2.2.2.1 q.2.2.2.2 (runA lx q.1).1 ∧ MutX w wr b sv0 dv0 l0 q.2.2.1 q.2.2.2.1 q.2.2.2.2)
  (fun q => lx.length - q.1) (0, (⟨none, 0, 0⟩, []), (sv0, dv0, l0)) ⟨rfl, rfl, rfl, rfl, trivial⟩ ⟨Nat.zero_le _, World.ownsRow_nil _ _ _ _, rfl, Nat.zero_le _, h0, MutX.same (Kp.refl _ _)⟩ ?_
 rintro ⟨i, ⟨so, L⟩, ⟨sv, dv, l⟩⟩ gg wr ⟨hi, ho, hL, hLl, hx, M⟩
 dsimp only at hi ho hL hLl hx M ⊢
 obtain ⟨aj, cj, ej⟩ := zab ho
 obtain ⟨ja, jn, jc⟩ := so
 injection ej with e1 e2 e3
 dsimp only at e1 e2 e3
 subst e1 e2 e3
 have zr := M.k.size
 refine GW ?_
 by_cases hlt : i < lx.length
 rotate_left
 ·obtain rfl : i = lx.length := by omega
  rw [zkT] at hL hx
  refine KGO ?_
  exact ⟨_, L, sv, dv, l, rfl, ho, hL, hx, M⟩
 have hAr := hA wr M.k
 obtain ⟨_, _, ea, hr⟩ := hAr.row
 injection ea with ea _ _
 subst ea
 obtain ⟨gb, o, rfl, hgb, hat⟩ := hr (by omega)
 have hsu := zdd hlt
 have hIw := zoj hw i hi
 have hwi := zeF (lx.map (·.2)) i
 have hB := hIw.b (by omega) (by omega)
 have hRk := zjm hw i hi
 have hdr := hd lx[i] (List.getElem_mem hlt)
 have hwl : wA lx[i].2 ≤ 1500 := by
  have h1 := zec (l := lx.map (·.2)) (i := i) (by simpa using hlt)
  rw [List.getElem_map] at h1
  have h2 := zeF (lx.map (·.2)) (i + 1)
  omega
 generalize hp : runA lx i = p at *
 obtain ⟨x, D⟩ := p
 dsimp only at hL hx hIw hB
 have qr := Kp.refl wr n_
 have Bw := B0.mut M
 refine KGO ?_
 refine Store.fresh (vs := actC lx[i]) (by rfl) rfl (zar (by rfl)) ?_
 obtain ⟨a_b7, k_w1, z_w1⟩ := new3 wr 54 (actC lx[i])
 generalize wr.alloc (.cells (List.toArray (actC lx[i])) 54) = w1 at *
 generalize hs_b7 : wr.heap.size = b7 at *
 have n7 : ¬ fpX b sv dv l b7 := fun e => by have := hx.fp_lt b7 e; omega
 have x1 := hx.keep0 k_w1
 have B1 := Bw.keep k_w1
 have M1 := M.trans (MutX.same k_w1)
 have o1 := zac ho k_w1
 clear hat hr hAr ho hx Bw M qr
 generalize lx[i] = y at *
 obtain ⟨ys, ya⟩ := y
 dsimp only at hdr hwl hsu
 have at2 := at_tx a_b7
 have a7 : At w1 b7 0 (actC (ys, ya)) := a_b7
 have q1 := Kp.refl w1 n_
 have hL6 : lenX ya.tx ≤ 1500 := by rw [zcE]; unfold wA at hwl; omega
 obtain ⟨d7, hd7⟩ : ∃ d7, ya.op % 8 = d7 := ⟨_, rfl⟩
 have hak : ya.ak.d7 = d7 := hd7
 clear a_b7
 refine KGO ?_
 rw [show (ys, ya).2.op = ya.op from rfl, and7, hd7]
 by_cases hadd : d7 = 0 ∨ d7 = 1 ∨ d7 = 4
 ·have hrs : runS (x, D) ya.ak = ((addX x ya.doc ya.tx).2, if (addX x ya.doc ya.tx).1 = 0 then D ++ [(ya.doc, ya.tx)] else D) := by unfold runS; rw [hak, if_pos hadd]; rfl
  rw [hrs] at hsu
  rcases hadd with e | e | e
  all_goals
   refine KGO ?_
   refine CallS.of (Tryz.call24 _ _) (ziO (w := w1) x1 hB B1 ya.doc ya.t0 ya.t1 ya.t2 ya.t3 ya.t4 ya.t5 (Nat.le_trans hL6 (by omega)) hdr) ?_
   rintro e w2 ⟨rfl, sv2, dv2, l2, x2, M2⟩
   rw [show ([ya.t0, ya.t1, ya.t2, ya.t3, ya.t4, ya.t5] : List (List UInt8)) = ya.tx from rfl] at x2 ⊢
   have o2 := zag (D := [69]) o1 M2.k (x1.notD (by decide) (by decide) (by decide) (by decide)) (by decide)
   have a72 := zaH a7 M2.k n7
   have at22 := zaH at2 M2.k n7
   have MM := M1.trans M2
   have q2 := Kp.refl w2 n_
   clear x1 B1 M1 o1 a7 at2 q1
   refine RT ?_
   by_cases h0 : (addX x ya.doc ya.tx).1 = 0
   ·rw [if_pos h0] at hsu
    rw [h0]
    refine KGO ?_
    refine RunV.of (zqr ya _) ?_
    refine KGO ?_
    refine RunV.of (bs1Dc ya _) ?_
    obtain ⟨a_b8, v_b8, k_w3, z_w3, r_w3⟩ := new5 w2 69 (dcC ya)
    generalize w2.alloc (.cells (List.toArray (dcC ya)) 69) = w3 at *
    generalize hs_b8 : w2.heap.size = b8 at *
    have o3 := zac o2 k_w3
    have x3 := x2.keep0 k_w3
    have z3 := MM.k.size
    refine KGO ?_
    refine tyDc.app1 ya o3 (by omega) a_b8 (by omega) (by omega) fun v4 w4 o4 k4 => ?_
    have x4 := x3.keepF k4 fun q e => x3.out o3 q e
    have M4 : MutX w w4 b sv0 dv0 l0 sv2 dv2 l2 := ⟨(MM.k.trans0 k_w3).trans k4 fun q hq e => by have := (o3.lt q e).1; omega, MM.f⟩
    obtain ⟨a4, c4, rfl⟩ := zab o4
    refine KGO ?_
    exact ⟨(i + 1, (⟨a4, _, c4⟩, L ++ [ya]), (sv2, dv2, l2)), ⟨rfl, rfl, rfl, v_int (by simp), trivial⟩, ⟨by dsimp only; omega, o4, by dsimp only; rw [hsu, List.map_append, hL]; rfl, by dsimp only; rw [List.length_append, List.length_singleton]; omega, by dsimp only; rw [hsu]; exact x4, M4⟩, by dsimp only; omega⟩
   ·rw [if_neg h0] at hsu
    refine KGO ?_
    exact ⟨(i + 1, (⟨ja, L.length, jc⟩, L), (sv2, dv2, l2)), ⟨rfl, rfl, rfl, v_int (by simp), trivial⟩, ⟨by dsimp only; omega, o2, by dsimp only; rw [hsu, hL], by dsimp only; omega, by dsimp only; rw [hsu]; exact x2, MM⟩, by dsimp only; omega⟩
 by_cases hdrop : d7 = 2 ∨ d7 = 5
 ·have hrs : runS (x, D) ya.ak = ((dropX x ya.doc).2, if (dropX x ya.doc).1 = true then D.filter fun e => !decide (e.1 = ya.doc) else D) := by unfold runS; rw [hak, if_neg hadd, if_pos hdrop]; rfl
  rw [hrs] at hsu
  have hB1 := hB
  rcases hdrop with e | e
  all_goals
   refine KGO ?_
   refine CallS.of (Tryz.call22 _ _) (zjD (w := w1) x1 hB ya.doc) ?_
   rintro e w2 ⟨rfl, sv2, dv2, l2, x2, M2⟩
   have o2 := zag (D := [69]) o1 M2.k (x1.notD (by decide) (by decide) (by decide) (by decide)) (by decide)
   have a72 : At w2 b7 0 (actC (ys, ya)) := zaH a7 M2.k n7
   have MM := M1.trans M2
   clear x1 B1 M1 o1 a7 at2 q1
   refine RT ?_
   cases h0 : (dropX x ya.doc).1 with
   | false =>
    rw [h0, if_neg (by simp)] at hsu
    refine KGO ?_
    exact ⟨(i + 1, (⟨ja, L.length, jc⟩, L), (sv2, dv2, l2)), ⟨rfl, rfl, rfl, v_int (by simp), trivial⟩, ⟨by dsimp only; omega, o2, by dsimp only; rw [hsu, hL], by dsimp only; omega, by dsimp only; rw [hsu]; exact x2, MM⟩, by dsimp only; omega⟩
   | true =>
   rw [h0, if_pos rfl] at hsu
   have z2 := MM.k.size
   have hfm : (L.filter fun a => !decide (a.doc = ya.doc)).map Am.ld = D.filter fun e => !decide (e.1 = ya.doc) := by rw [← hL, List.filter_map]; rfl
   obtain ⟨_, _, eo, hro⟩ := zao o2
   injection eo with eo _ _
   subst eo
   refine KGO ?_
   refine Loop.intro (ι := Nat × Sl) (fun q => [(0, .pointer (some ⟨b, 0, none⟩)), (1, .slice (some ⟨gb, o, none⟩) lx.length cap), (5, .slice ja L.length jc), (6, .int .i64 (i : Nat)), (7, .pointer (some ⟨b7, 0, none⟩)), (8, .slice q.2.a q.2.n q.2.c), (9, .int .i64 (q.1 : Nat))])
    (fun q wk => Kp w2 wk n_ ∧ q.1 ≤ L.length ∧ OwnR 69 dcC 7 wk w2.heap.size q.2.v ((L.take q.1).filter fun a => !decide (a.doc = ya.doc))) (fun q => L.length - q.1) (0, ⟨none, 0, 0⟩) ⟨rfl, rfl, rfl, rfl, rfl, rfl, rfl, trivial⟩ ⟨Kp.refl _ _, Nat.zero_le _, World.ownsRow_nil _ _ _ _⟩ ?_
   rintro ⟨k, sr⟩ gk wk ⟨hKk, hk, hr⟩
   dsimp only at hk hr ⊢
   obtain ⟨ak, ck, ek⟩ := zab hr
   obtain ⟨ra, rn, rc⟩ := sr
   injection ek with e1 e2 e3
   dsimp only at e1 e2 e3
   subst e1 e2 e3
   have hfl : ((L.take k).filter fun a => !decide (a.doc = ya.doc)).length ≤ k := Nat.le_trans (List.length_filter_le _ _) (by rw [List.length_take]; exact Nat.min_le_left _ _)
   refine GW ?_
   by_cases hkt : k < L.length
   rotate_left
   ·obtain rfl : k = L.length := by omega
    rw [List.take_length] at hr hfl ⊢
    have x4 := x2.keep0 hKk
    refine KGO ?_
    exact ⟨(i + 1, (⟨ra, _, rc⟩, L.filter fun a => !decide (a.doc = ya.doc)), (sv2, dv2, l2)), ⟨rfl, rfl, rfl, v_int (by simp), trivial⟩, ⟨by dsimp only; omega, zax hr (by omega), by dsimp only; rw [hsu, hfm], by dsimp only; omega, by dsimp only; rw [hsu]; exact x4, MM.trans (MutX.same hKk)⟩, by dsimp only; omega⟩
   obtain ⟨gl, ol, rfl, hgl, hatl⟩ := hro (by omega)
   have hatl := zai hatl hKk
   have a7k := zai a72 hKk
   have qk := Kp.refl wk n_
   have hst : (L.take (k + 1)).filter (fun a => !decide (a.doc = ya.doc)) = (L.take k).filter (fun a => !decide (a.doc = ya.doc)) ++ if L[k].doc = ya.doc then [] else [L[k]] := by
    rw [List.take_succ_eq_append_getElem hkt, List.filter_append, List.filter_cons]
    by_cases h : L[k].doc = ya.doc <;> simp [h]
   generalize (L.take k).filter (fun a => !decide (a.doc = ya.doc)) = F at *
   by_cases hdd : L[k].doc = ya.doc
   ·rw [if_pos hdd, List.append_nil] at hst
    refine KGO ?_
    exact ⟨(k + 1, ⟨ra, F.length, rc⟩), ⟨rfl, rfl, rfl, rfl, rfl, rfl, v_int (by simp), trivial⟩, ⟨hKk.drew, by dsimp only; omega, by dsimp only; rw [hst]; exact zac hr (Kp.refl wk n_).drew⟩, by dsimp only; omega⟩
   ·rw [if_neg hdd] at hst
    refine KGO ?_
    refine RunV.of (bs1Dc L[k] _) ?_
    obtain ⟨a_b9, v_b9, k_w4, z_w4, r_w4⟩ := new5 wk.drew 69 (dcC L[k])
    generalize wk.drew.alloc (.cells (List.toArray (dcC L[k])) 69) = w4 at *
    generalize hs_b9 : wk.drew.heap.size = b9 at *
    have kd := (Kp.refl wk n_).drew
    have K4 := (hKk.trans0 kd).trans0 k_w4
    have hr4 := zac (zac hr kd) k_w4
    have z4 := K4.size
    refine KGO ?_
    refine tyDc.app1 L[k] hr4 (by omega) a_b9 (by omega) (by omega) fun v5 w5 o5 k5 => ?_
    have K5 := zaE hr4 k5 K4 (Nat.le_refl _)
    obtain ⟨a5, c5, rfl⟩ := zab o5
    refine KGO ?_
    exact ⟨(k + 1, ⟨a5, _, c5⟩), ⟨rfl, rfl, rfl, rfl, rfl, rfl, v_int (by simp), trivial⟩, ⟨K5, by dsimp only; omega, by dsimp only; rw [hst]; exact o5⟩, by dsimp only; omega⟩
 ·have hrs : runS (x, D) ya.ak = ((stepX x).2, D) := by unfold runS; rw [hak, if_neg hadd, if_neg hdrop]
  rw [hrs] at hsu
  refine KGO ?_
  refine CallS.of (Tryz.call31 _ _) (znl (w := w1) x1 hB B1.env) ?_
  rintro e w2 ⟨rfl, sv2, dv2, l2, x2, M2⟩
  have o2 := zag (D := [69]) o1 M2.k (x1.notD (by decide) (by decide) (by decide) (by decide)) (by decide)
  have MM := M1.trans M2
  refine RT ?_
  refine KGO ?_
  exact ⟨(i + 1, (⟨ja, L.length, jc⟩, L), (sv2, dv2, l2)), ⟨rfl, rfl, rfl, v_int (by simp), trivial⟩, ⟨by dsimp only; omega, o2, by dsimp only; rw [hsu, hL], by dsimp only; omega, by dsimp only; rw [hsu]; exact x2, MM⟩, by dsimp only; omega⟩
end
end Go.Proofs.YtennokckmjcefaaGreatDoor
