/- Helper lemmas that the proved statement rests on; no conditions of their own. -/
import Derived.Test.YtennokckmjcefaaGreatDoorGNe1
import Derived.Test.YtennokckmjcefaaGreatDoorGNf0
set_option linter.unusedVariables false
set_option maxHeartbeats 8000000
set_option maxRecDepth 100000
namespace Go.Proofs.YtennokckmjcefaaGreatDoor
open Go.Shelf Go.RowKit Go.Pw Go.Vc Go.Cs Go.Lib Go.Cd Go.Mg
section
variable {w : World}
theorem zdz (s t : List UInt8) : Calls Tryz.prog 49 #[.string (str s), .string (str t)] w fun e w' => e = .returned (.agg (List.toArray [.string (str []), .string (str []), .string (str []), .string (str s), .string (str t), .string (str [])])) ∧ Kp w w' n_ := by
 refine zaa (args := [.string (str s), .string (str t)]) Tryz.func49 rfl NL ?_; refine GW ?_
 obtain ⟨a_b4, v_b4, k_w1, z_w1, r_w1⟩ := new5 w 32 ([.string ⟨#[]⟩, .string ⟨#[]⟩, .string ⟨#[]⟩, .string ⟨#[]⟩, .string ⟨#[]⟩, .string ⟨#[]⟩])
 generalize w.alloc (.cells (List.toArray ([.string ⟨#[]⟩, .string ⟨#[]⟩, .string ⟨#[]⟩, .string ⟨#[]⟩, .string ⟨#[]⟩, .string ⟨#[]⟩])) 32) = w1 at *
 generalize hs_b4 : w.heap.size = b4 at *
 refine KGO ?_
 obtain ⟨a_b5, v_b5, k_w2, z_w2, r_w2⟩ := new5 w1 32 ([.string ⟨#[]⟩, .string ⟨#[]⟩, .string ⟨#[]⟩, .string ⟨#[]⟩, .string ⟨#[]⟩, .string ⟨#[]⟩])
 generalize w1.alloc (.cells (List.toArray ([.string ⟨#[]⟩, .string ⟨#[]⟩, .string ⟨#[]⟩, .string ⟨#[]⟩, .string ⟨#[]⟩, .string ⟨#[]⟩])) 32) = w2 at *
 generalize hs_b5 : w1.heap.size = b5 at *
 have v4 := v_b4.keep0 k_w2
 refine KGO ?_
 refine Store.cellK (i := 3) v_b5 (by simp) (by rfl) ⟨rfl, by simp, by simp⟩ fun w3 v3 k3 => ?_
 refine KGO ?_
 refine Store.cellK (i := 4) v3 (by simp) (by rfl) ⟨rfl, by simp, by simp⟩ fun w4 v5 k4 => ?_
 have a5 := v5.at
 have q4 := Kp.refl w4 n_
 have v44 := (v4.keep k3 (show ¬ b4 = b5 by omega)).keep k4 (show ¬ b4 = b5 by omega)
 have K4 : Kp w w4 n_ := zag (zag (k_w1.trans0 k_w2) k3 (by omega)) k4 (by omega)
 refine KGO ?_
 refine Store.varK [.string ⟨#[]⟩, .string ⟨#[]⟩, .string ⟨#[]⟩, .string (str s), .string (str t), .string ⟨#[]⟩] v44 (by rfl) rfl (zar (by rfl)) fun w5 v6 k5 => ?_
 have a6 := v6.at
 have q5 := Kp.refl w5 n_
 refine KGO ?_
 refine GW ?_
 refine KGO ?_
 refine GW ?_
 exact ⟨rfl, zag K4 k5 (by omega)⟩
theorem bs2T (a c : ByteArray) (w : World) : (Instr.buildSlice 48 2 [(0, .string a), (1, .string c)].toArray).run Tryz.prog w = .ok (.slice (some ⟨w.heap.size, 0, none⟩) 2 2) (w.alloc (.cells (List.toArray [.string a, .string c]) 9)) := by
 simp [Instr.buildSlice, Instr.fill, go_sem, Tryz.runUnderlying48]
theorem zdB {x : Ix} {N Q Z : Nat} (h : Iw x N Q Z) (hN : N ≤ 1000) : LookB x := fun f q => by
 obtain ⟨h1, h2⟩ := zis h.ok h.wt f q
 exact ⟨by omega, fun p hp => by have := h2 p hp; omega⟩
theorem zgh {a : Option Addr} {n c : Nat} (h : n ≤ c) : CapK (.slice a n c) := fun a' n' c' e => by
 injection e with _ e1 e2
 omega
theorem zja {w : World} {b : Nat} {x y : List UInt8} (h : At w b 0 [.string (str x), .string (str y)]) (hb : b < w.heap.size) : RowO w (.slice (some ⟨b, 0, none⟩) 2 2) txC [x, y] := ⟨_, 2, rfl, fun _ => ⟨b, 0, rfl, hb, h⟩⟩
theorem zrS {x : Ix} {N Q Z : Nat} (h : Iw x N Q Z) (hN : N ≤ 1000) (hQ : Q ≤ 20000) (hZ : Z ≤ 100000) : SerB x := by
 have hb := h.b hN hQ
 have hl := h.len hN hZ
 refine ⟨fun s hs => ⟨zkp (hb.b s hs) (by omega) (by omega) (by omega), by have := (hb.b s hs).d; omega⟩, by have := hb.n; omega, by have := hb.d; omega, fun d hd => ?_, by omega⟩
 have := zhi h.ok d hd
 omega
theorem MutX.out {w' : World} {b g : Nat} {sv dv sv' dv' : Sl} {l l' : List (Sv × Sgm)} (m : MutX w w' b sv dv l sv' dv' l') (h : ¬ fpX b sv dv l g) (hl : g < w.heap.size) : ¬ fpX b sv' dv' l' g := fun e => (m.f g e).elim h fun e => by omega
theorem zlK (hE : CEnv w) : Calls Tryz.prog 11 #[] w fun e w' => e = .returned (.bool true) ∧ Kp w w' n_ := by
 refine zaa (args := []) Tryz.func11 rfl NL ?_; refine GW ?_
 refine CallS.of (Tryz.call16 _ _) (zlZ (w := w)) ?_
 rintro e w1 ⟨rfl, h1, k1⟩
 obtain ⟨b, hb⟩ : ∃ b, w.heap.size = b := ⟨_, rfl⟩
 rw [hb] at h1 ⊢
 have B1 : Bs w w1 b ⟨none, 0, 0⟩ ⟨none, 0, 0⟩ [] := ⟨k1, fun q e => by have := h1.fp_ge q e; omega, hE⟩
 refine RT ?_
 refine KGO ?_
 refine CallS.of (Tryz.call49 _ _) (zdz (w := w1) [97, 32, 98] [120]) ?_
 rintro e w2 ⟨rfl, k2⟩
 refine RT ?_
 refine CallS.of (Tryz.call24 _ _) (zgB (w := w2) (h1.keep0 k2) (Iw.empty.b (by omega) (by omega)) (B1.keep k2) 3 [] [] [] [97, 32, 98] [120] [] (by decide) (by decide)) ?_
 rintro e w3 ⟨rfl, sv3, dv3, l3, h3, M3⟩
 have B3 := (B1.keep k2).mut M3
 rw [show addX emptyX 3 [[], [], [], [97, 32, 98], [120], []] = (0, ⟨[sA], []⟩) from sm_a] at h3 ⊢
 dsimp only at h3 ⊢
 refine RT ?_
 refine KGO ?_
 refine CallS.of (Tryz.call49 _ _) (zdz (w := w3) [98, 32, 97] [97, 32, 98]) ?_
 rintro e w4 ⟨rfl, k4⟩
 refine RT ?_
 refine CallS.of (Tryz.call24 _ _) (zgB (w := w4) (h3.keep0 k4) (iw_1.b (by omega) (by omega)) (B3.keep k4) 5 [] [] [] [98, 32, 97] [97, 32, 98] [] (by decide) (by decide)) ?_
 rintro e w5 ⟨rfl, sv5, dv5, l5, h5, M5⟩
 have B5 := (B3.keep k4).mut M5
 rw [show addX ⟨[sA], []⟩ 5 [[], [], [], [98, 32, 97], [97, 32, 98], []] = (0, ⟨[sA, sB], []⟩) from sm_b] at h5 ⊢
 dsimp only at h5 ⊢
 clear M3 M5 B1 B3 h1 h3 k1 k2 k4
 refine RT ?_
 refine KGO ?_
 refine CallS.of (Tryz.call49 _ _) (zdz (w := w5) [] []) ?_
 rintro e w6 ⟨rfl, k6⟩
 refine RT ?_
 refine CallS.of (Tryz.call24 _ _) (zgB (w := w6) (h5.keep0 k6) (iw_2.b (by omega) (by omega)) (B5.keep k6) 3 [] [] [] [] [] [] (by decide) (by decide)) ?_
 rintro e w7 ⟨rfl, sv7, dv7, l7, h7, M7⟩
 have B7 := (B5.keep k6).mut M7
 rw [sm_c] at h7 ⊢
 dsimp only at h7 ⊢
 refine RT ?_
 refine KGO ?_
 refine CallS.of (Tryz.call49 _ _) (zdz (w := w7) [] []) ?_
 rintro e w8 ⟨rfl, k8⟩
 refine RT ?_
 refine CallS.of (Tryz.call24 _ _) (zgB (w := w8) (h7.keep0 k8) (iw_2.b (by omega) (by omega)) (B7.keep k8) 0 [] [] [] [] [] [] (by decide) (by decide)) ?_
 rintro e w9 ⟨rfl, sv9, dv9, l9, h9, M9⟩
 have B9 := (B7.keep k8).mut M9
 rw [sm_e] at h9 ⊢
 dsimp only at h9 ⊢
 clear M7 M9 B5 B7 h5 h7 k6 k8
 refine RT ?_
 refine KGO ?_
 refine RunV.of (bs2T _ _ _) ?_
 obtain ⟨a_b10, v_b10, k_w10, z_w10, r_w10⟩ := new5 w9 9 ([.string ⟨#[97]⟩, .string ⟨#[98]⟩])
 generalize w9.alloc (.cells (List.toArray ([.string ⟨#[97]⟩, .string ⟨#[98]⟩])) 9) = w10 at *
 generalize hs_b10 : w9.heap.size = b10 at *
 have h10 := h9.keep0 k_w10
 have B10 := B9.keep k_w10
 have hr10 := zja (x := [97]) (y := [98]) a_b10 (by omega)
 clear h9 B9 a_b10 v_b10
 refine KGO ?_
 refine CallS.of (Tryz.call37 _ _) (zcQ (w := w10) h10 (iw_2.b (by omega) (by omega)) B10.env (zdB iw_2 (by omega)) 0 [[97], [98]] hr10 (zgh (by omega)) (by decide)) ?_
 rintro e w11 ⟨v11, rfl, o11, k11⟩
 rw [zsJ] at o11
 obtain ⟨a11, c11, rfl⟩ := zab o11
 rw [show ([3, 5] : List Int).length = 2 from rfl]
 have h11 := h10.keep0 k11
 have B11 := B10.keep k11
 clear o11 h10 B10 hr10
 refine RT ?_
 refine KGO ?_
 refine RunV.of (bs2T _ _ _) ?_
 obtain ⟨a_b12, v_b12, k_w12, z_w12, r_w12⟩ := new5 w11 9 ([.string ⟨#[98]⟩, .string ⟨#[97]⟩])
 generalize w11.alloc (.cells (List.toArray ([.string ⟨#[98]⟩, .string ⟨#[97]⟩])) 9) = w12 at *
 generalize hs_b12 : w11.heap.size = b12 at *
 have h12 := h11.keep0 k_w12
 have B12 := B11.keep k_w12
 have hr12 := zja (x := [98]) (y := [97]) a_b12 (by omega)
 clear h11 B11 a_b12 v_b12
 refine KGO ?_
 refine CallS.of (Tryz.call37 _ _) (zcQ (w := w12) h12 (iw_2.b (by omega) (by omega)) B12.env (zdB iw_2 (by omega)) 3 [[98], [97]] hr12 (zgh (by omega)) (by decide)) ?_
 rintro e w13 ⟨v13, rfl, o13, k13⟩
 rw [zsr] at o13
 obtain ⟨a13, c13, e13, hr13⟩ := zao o13
 subst e13
 rw [show ([5] : List Int).length = 1 from rfl] at *
 obtain ⟨g13, p13, rfl, hg13, at13⟩ := hr13 (by omega)
 have hg13' := (o13.lt g13 rfl).1
 have h13 := h12.keep0 k13
 have B13 := B12.keep k13
 have n13 : ¬ fpX b sv9 dv9 l9 g13 := fun e => by have := h12.fp_lt g13 e; omega
 clear o13 h12 B12 hr12 hr13
 refine RT ?_
 refine KGO ?_
 refine CallS.of (Tryz.call22 _ _) (znq (w := w13) h13 (iw_2.b (by omega) (by omega)) 3) ?_
 rintro e w14 ⟨rfl, sv14, dv14, l14, h14, M14⟩
 have B14 := B13.mut M14
 have at14 := zaL at13 M14.k n13
 have n14 := M14.out n13 hg13
 have hg14 : g13 < w14.heap.size := by have := M14.k.size; omega
 rw [sm_d] at h14 ⊢
 dsimp only at h14 ⊢
 clear M14 B13 h13 at13 n13
 refine RT ?_
 refine KGO ?_
 refine CallS.of (Tryz.call22 _ _) (znq (w := w14) h14 (iw_3.b (by omega) (by omega)) 3) ?_
 rintro e w15 ⟨rfl, sv15, dv15, l15, h15, M15⟩
 have B15 := B14.mut M15
 have at15 := zaL at14 M15.k n14
 have hg15 : g13 < w15.heap.size := by have := M15.k.size; omega
 rw [sm_d2] at h15 ⊢
 dsimp only at h15 ⊢
 clear M15 B14 h14 at14 n14
 refine RT ?_
 refine KGO ?_
 refine RunV.of (bs2T _ _ _) ?_
 obtain ⟨a_b16, v_b16, k_w16, z_w16, r_w16⟩ := new5 w15 9 ([.string ⟨#[97]⟩, .string ⟨#[98]⟩])
 generalize w15.alloc (.cells (List.toArray ([.string ⟨#[97]⟩, .string ⟨#[98]⟩])) 9) = w16 at *
 generalize hs_b16 : w15.heap.size = b16 at *
 have h16 := h15.keep0 k_w16
 have B16 := B15.keep k_w16
 have hr16 := zja (x := [97]) (y := [98]) a_b16 (by omega)
 clear h15 B15 a_b16 v_b16
 refine KGO ?_
 refine CallS.of (Tryz.call37 _ _) (zcQ (w := w16) h16 (iw_3.b (by omega) (by omega)) B16.env (zdB iw_3 (by omega)) 0 [[97], [98]] hr16 (zgh (by omega)) (by decide)) ?_
 rintro e w17 ⟨v17, rfl, o17, k17⟩
 rw [zpj] at o17
 obtain ⟨a17, c17, rfl⟩ := zab o17
 rw [show ([5] : List Int).length = 1 from rfl]
 have h17 := h16.keep0 k17
 have B17 := B16.keep k17
 have at17 := zai (zai at15 k_w16) k17
 clear o17 h16 B16 hr16
 refine RT ?_
 refine KGO ?_
 refine CallS.of (Tryz.call19 _ _) (zfE (w := w17) h17 (iw_3.b (by omega) (by omega)) B17.env 4 [97]) ?_
 rintro e w18 ⟨v18, rfl, o18, k18⟩
 obtain ⟨p, hp, hpd⟩ := zrr
 rw [hp] at o18
 obtain ⟨lx, hlx, hxo⟩ := o18
 obtain ⟨y, rfl⟩ : ∃ y, lx = [y] := by
  match lx, hlx with
  | [y], _ => exact ⟨y, rfl⟩
  | [], h => simp at h
  | _ :: _ :: _, h => simp at h
 have hyd : y.p.doc = 5 := by rw [← hpd]; simp at hlx; rw [hlx]
 obtain ⟨a18, c18, e18, hr18⟩ := zao hxo.row
 subst e18
 rw [show [y].length = 1 from rfl] at *
 obtain ⟨g18, p18, rfl, hg18, at18⟩ := hr18 (by omega)
 have h18 := h17.keep0 k18
 have B18 := B17.keep k18
 have at13 := zai at17 k18
 have at18 : At w18 g18 p18 [.int .i64 5, .slice y.h.a y.h.n y.h.c] := by rw [← hyd]; simpa [prC] using at18
 have at13 : At w18 g13 p13 [.int .i64 5] := by simpa [inC] using at13
 have hg13 : g13 < w18.heap.size := by have := k_w16.size; have := k17.size; have := k18.size; omega
 have hdl : (⟨[sA, sB], [3]⟩ : Ix).dead = [3] := rfl
 clear h17 B17 at17 at15 hxo hlx hr18 hp k18 k17 k_w16
 refine RT ?_
 refine KGO ?_
 refine CallS.of (Tryz.call14 _ _) (zjJ (w := w18) (x := ⟨[sA, sB], [3]⟩) h18.v (zao h18.dd) h18.eq (zrS iw_3 (by omega) (by omega) (by omega)) B18.env) ?_
 rintro e w19 ⟨rfl, k19⟩
 have hlen := iw_3.len (by omega) (by omega)
 refine RT ?_
 refine CallS.of (Tryz.call12 _ _) (zqU (w := w19) (serX ⟨[sA, sB], [3]⟩) (by omega) (B18.keep k19).env) ?_
 rw [zqe iw_3.ok (by omega)]
 rintro e w20 ⟨⟨c, sv20, dv20, l20, rfl, hcw, h20⟩, k20⟩
 have at13 := zai (zai at13 k19) k20
 have at18 := zai (zai at18 k19) k20
 have K20 := (B18.K.trans0 k19).trans0 k20
 have z19 := k19.size
 have n13 : ¬ fpX c sv20 dv20 l20 g13 := fun e => by have := h20.fp_ge g13 e; omega
 have n18 : ¬ fpX c sv20 dv20 l20 g18 := fun e => by have := h20.fp_ge g18 e; omega
 have B20 : Bs w w20 c sv20 dv20 l20 := ⟨K20, fun q e => by have := h20.fp_ge q e; have := B18.K.size; omega, hE⟩
 clear B18 h18 k19 k20
 refine RT ?_
 refine KGO ?_
 refine CallS.of (Tryz.call31 _ _) (zmQ (w := w20) h20 (iw_3.b (by omega) (by omega)) B20.env) ?_
 rintro e w21 ⟨rfl, sv21, dv21, l21, h21, M21⟩
 have at13 := zaL at13 M21.k n13
 have at18 := zaL at18 M21.k n18
 have B21 := B20.mut M21
 rw [zmV] at h21 ⊢
 dsimp only at h21 ⊢
 clear M21 B20 h20 n13 n18
 refine RT ?_
 refine KGO ?_
 refine CallS.of (Tryz.call39 _ _) (zri (w := w21) h21 (by decide) (by decide)) ?_
 rintro e w22 ⟨rfl, k22⟩
 have h22 := h21.keep0 k22
 have B22 := B21.keep k22
 have at13 := zai at13 k22
 have at18 := zai at18 k22
 have q22 := Kp.refl w22 n_
 clear h21 B21 k22
 refine RT ?_
 refine KGO ?_
 refine CallS.of (Tryz.call21 _ _) (zqP (w := w22) h22 (iw_4.b (by omega) (by omega))) ?_
 rintro e w23 ⟨v23, rfl, o23, k23⟩
 rw [zsa] at o23
 obtain ⟨a23, c23, rfl⟩ := zab o23
 rw [show ([5] : List Int).length = 1 from rfl]
 refine RT ?_
 refine KGO ?_
 exact ⟨rfl, B22.K.trans0 k23⟩
end
structure Am where
 op : Int
 doc : Int
 t0 : List UInt8
 t1 : List UInt8
 t2 : List UInt8
 t3 : List UInt8
 t4 : List UInt8
 t5 : List UInt8
 field : Int
 word : List UInt8
 words : List (List UInt8)
deriving Inhabited
def Am.tx (a : Am) : List (List UInt8) := [a.t0, a.t1, a.t2, a.t3, a.t4, a.t5]
def actC (p : Sl × Am) : List Value := [.int .i64 p.2.op, .int .i64 p.2.doc, .string (str p.2.t0), .string (str p.2.t1), .string (str p.2.t2), .string (str p.2.t3), .string (str p.2.t4), .string (str p.2.t5), .int .i64 p.2.field, .string (str p.2.word), .slice p.1.a p.1.n p.1.c]
structure RowA (w : World) (v : Value) (lx : List (Sl × Am)) : Prop where
 row : RowO w v actC lx
 ws : ∀ p ∈ lx, RowO w p.1.v txC p.2.words
 cp : ∀ p ∈ lx, CapK p.1.v
theorem RowA.keep {w w' : World} {v : Value} {lx : List (Sl × Am)} (h : RowA w v lx) (k : Kp w w' n_) : RowA w' v lx := ⟨h.row.keep k, fun p hp => (h.ws p hp).keep k, h.cp⟩
def sumT (l : List (List UInt8)) : Nat := (l.map List.length).sum
def wA (a : Am) : Nat := sumT a.tx + a.word.length + 10 * a.words.length + sumT a.words
def wAs (l : List Am) : Nat := (l.map wA).sum
theorem zif {l : List (List UInt8)} {i : Nat} (h : i < l.length) : sumT (l.take (i + 1)) = sumT (l.take i) + l[i].length := by
 unfold sumT
 rw [List.take_succ_eq_append_getElem h, List.map_append, List.sum_append]; simp
theorem zhn (l : List (List UInt8)) (i : Nat) : sumT (l.take i) ≤ sumT l := by
 unfold sumT
 conv => rhs; rw [← List.take_append_drop i l, List.map_append, List.sum_append]
 omega
theorem zhx {l : List Am} {i : Nat} (h : i < l.length) : wAs (l.take (i + 1)) = wAs (l.take i) + wA l[i] := by
 unfold wAs
 rw [List.take_succ_eq_append_getElem h, List.map_append, List.sum_append]; simp
theorem zla (l : List Am) (i : Nat) : wAs (l.take i) ≤ wAs l := by
 unfold wAs
 conv => rhs; rw [← List.take_append_drop i l, List.map_append, List.sum_append]
 omega
theorem zkB (a : Am) : lenX a.tx = sumT a.tx := by
 unfold sumT
 show a.t0.length + a.t1.length + a.t2.length + a.t3.length + a.t4.length + a.t5.length = _
 unfold Am.tx
 simp only [List.map_cons, List.map_nil, List.sum_cons, List.sum_nil]
 omega
theorem zsu (p : Sl × Am) (f : Nat) (h : f < 6) : (actC p)[2 + f]? = some (.string (str (p.2.tx.getD f []))) := by
 match f, h with
 | 0, _ => rfl
 | 1, _ => rfl
 | 2, _ => rfl
 | 3, _ => rfl
 | 4, _ => rfl
 | 5, _ => rfl
theorem lenAct (p : Sl × Am) : (actC p).length = 11 := rfl
section
variable {w : World}
theorem zoP {v : Value} (lx : List (Sl × Am)) (hv : RowA w v lx) (hl : lx.length ≤ 1000000000) (hw : wAs (lx.map (·.2)) ≤ 1000000000) :
  Calls Tryz.prog 17 #[v] w fun e w' => e = .returned (.bool (decide (lx.length ≤ 30 ∧ wAs (lx.map (·.2)) ≤ 1500))) ∧ Kp w w' n_ := by
 obtain ⟨⟨a, cap, rfl, hr⟩, hws, _⟩ := hv
 refine zaa (args := [.slice a lx.length cap]) Tryz.func17 rfl NL ?_; refine GW ?_
 refine Loop.intro (ι := Nat) (fun i => [(0, .slice a lx.length cap), (3, .int .i64 (wAs ((lx.map (·.2)).take i) : Nat)), (4, .int .i64 (i : Nat))])
  (fun i wr => Kp w wr n_ ∧ i ≤ lx.length) (fun i => lx.length - i) 0 ⟨rfl, rfl, rfl, trivial⟩ ⟨Kp.refl _ _, Nat.zero_le _⟩ ?_
 rintro i gg wr ⟨hK, hi⟩
 have hwi := zla (lx.map (·.2)) i
 refine GW ?_
 by_cases hlt : i < lx.length
 ·obtain ⟨gb, o, rfl, hgb, hat⟩ := hr (by omega)
  have hat := zai hat hK
  have hst := zhx (l := lx.map (·.2)) (i := i) (by simpa using hlt)
  rw [List.getElem_map] at hst
  have hwi2 := zla (lx.map (·.2)) (i + 1)
  have hWW := hws lx[i] (List.getElem_mem hlt)
  have hwn : lx[i].1.n = lx[i].2.words.length := RowO.len hWW
  have hwe : wA lx[i].2 = sumT lx[i].2.tx + lx[i].2.word.length + 10 * lx[i].2.words.length + sumT lx[i].2.words := rfl
  rw [hst, hwe] at hwi2
  generalize hN0 : wAs ((lx.map (·.2)).take i) = N0 at *
  refine KGO ?_
  refine Loop.intro (ι := Nat) (fun f => [(0, .slice (some ⟨gb, o, none⟩) lx.length cap), (3, .int .i64 ((N0 + sumT (lx[i].2.tx.take f) : Nat) : Int)), (4, .int .i64 (i : Nat)), (5, .int .i64 (f : Nat))])
   (fun f wk => Kp wr wk n_ ∧ f ≤ 6) (fun f => 6 - f) 0 ⟨rfl, by rfl, rfl, rfl, trivial⟩ ⟨Kp.refl _ _, Nat.zero_le _⟩ ?_
  rintro f gf wk ⟨hKf, hf⟩
  have hsf := zhn lx[i].2.tx f
  refine GW ?_
  by_cases hft : f < 6
  ·have ct : wk.cell? ⟨gb, o + i * 11 + 2 + f, none⟩ = some (.string (str (lx[i].2.tx.getD f []))) := by
    have := zex (zai hat hKf) lenAct hlt (2 + f) _ (zsu _ f hft)
    rwa [← Nat.add_assoc] at this
   have hz : (str (lx[i].2.tx.getD f [])).size = (lx[i].2.tx.getD f []).length := rfl
   have h6 : lx[i].2.tx.length = 6 := rfl
   have hgd : lx[i].2.tx.getD f [] = lx[i].2.tx[f]'(by omega) := by simp [List.getD, show f < lx[i].2.tx.length by omega]
   have hsf2 := zif (l := lx[i].2.tx) (i := f) (by omega)
   have hsf3 := zhn lx[i].2.tx (f + 1)
   rw [← hgd] at hsf2
   generalize lx[i].2.tx.getD f [] = T at *
   refine KGO ?_
   exact ⟨f + 1, ⟨rfl, v_int (by rw [hsf2]; omega), rfl, v_int (by simp), trivial⟩, ⟨hKf, by omega⟩, by dsimp only; omega⟩
  obtain rfl : f = 6 := by omega
  rw [show lx[i].2.tx.take 6 = lx[i].2.tx from rfl] at hsf ⊢
  have hat2 := zai hat hKf
  have qk := Kp.refl wk n_
  have hz : (str lx[i].2.word).size = lx[i].2.word.length := rfl
  refine KGO ?_
  have Kk := (hK.trans0 hKf).drew
  have hat3 : At wk.drew gb o (lx.flatMap actC) := hat2
  clear hat hat2
  generalize wk.drew = wd at *
  refine Loop.intro (ι := Nat) (fun j => [(0, .slice (some ⟨gb, o, none⟩) lx.length cap), (3, .int .i64 ((N0 + sumT lx[i].2.tx + lx[i].2.word.length + 10 * lx[i].2.words.length + sumT (lx[i].2.words.take j) : Nat) : Int)), (4, .int .i64 (i : Nat)), (6, .int .i64 (j : Nat))])
   (fun j wk => Kp wd wk n_ ∧ j ≤ lx[i].2.words.length) (fun j => lx[i].2.words.length - j) 0 ⟨rfl, v_int (by rw [hwn, hz]; unfold sumT; simp), rfl, rfl, trivial⟩ ⟨Kp.refl _ _, Nat.zero_le _⟩ ?_
  rintro j gj wj ⟨hKj, hj⟩
  have hsj := zhn lx[i].2.words j
  have hat4 := zai hat3 hKj
  have qj := Kp.refl wj n_
  refine GW ?_
  by_cases hjt : j < lx[i].2.words.length
  ·obtain ⟨ra, rc, re, rh⟩ := hWW
   obtain ⟨g2, o2, rfl, hg2, hat2⟩ := rh (by omega)
   injection re with re _ _
   have hat2 := zai hat2 (Kk.trans0 hKj)
   have ct := zqF hat2 hjt
   have hsj2 := zif hjt
   have hsj3 := zhn lx[i].2.words (j + 1)
   have hz2 : (str lx[i].2.words[j]).size = lx[i].2.words[j].length := rfl
   clear hat2
   refine KGO ?_
   rw [re]
   refine KGO ?_
   exact ⟨j + 1, ⟨rfl, v_int (by rw [hsj2, hz2]; omega), rfl, v_int (by simp), trivial⟩, ⟨hKj, by omega⟩, by dsimp only; omega⟩
  obtain rfl : j = lx[i].2.words.length := by omega
  refine KGO ?_
  exact ⟨i + 1, ⟨rfl, v_int (by rw [hst, hwe, List.take_length]; omega), v_int (by simp), trivial⟩, ⟨Kk.trans0 hKj, by omega⟩, by dsimp only; omega⟩
 obtain rfl : i = lx.length := by omega
 rw [List.take_of_length_le (by simp)] at *
 by_cases h30 : lx.length ≤ 30
 ·refine KGO ?_
  exact ⟨zam (by simp [h30]; omega), hK⟩
 ·refine KGO ?_
  exact ⟨zam (by simp [h30]), hK⟩
end
def t6C (a : Am) : List Value := [.string (str a.t0), .string (str a.t1), .string (str a.t2), .string (str a.t3), .string (str a.t4), .string (str a.t5)]
def Am.bare (a : Am) : Am := ⟨0, 0, a.t0, a.t1, a.t2, a.t3, a.t4, a.t5, 0, [], []⟩
def bareP (a : Am) : Sl × Am := (⟨none, 0, 0⟩, a.bare)
theorem infoAct : (Tryz.prog.info? 54).map (fun i => (i.zero, i.size, i.bytes)) = some (some (.agg #[.int .i64 0, .int .i64 0, .string ⟨#[]⟩, .string ⟨#[]⟩, .string ⟨#[]⟩, .string ⟨#[]⟩, .string ⟨#[]⟩, .string ⟨#[]⟩, .int .i64 0, .string ⟨#[]⟩, .slice none 0 0]), 11, 160) := by kernel_rfl
theorem tyAct : RowTy 31 54 actC 11 160 := ⟨Tryz.underlying31, ⟨_, infoAct, rfl⟩, by decide, lenAct, fun x => List.all_eq_true.1 (by rfl)⟩
theorem zms (a : Am) (w : World) : (Instr.build 54 [(2, .agg (t6C a).toArray)].toArray).run Tryz.prog w = .ok (.agg (actC (bareP a)).toArray) w := by
 simp [Instr.build, go_sem, Tryz.runUnderlying54, t6C, actC, bareP, Am.bare]
 rfl
theorem bs1Act (x : Sl × Am) (w : World) : (Instr.buildSlice 31 1 [(0, .agg (actC x).toArray)].toArray).run Tryz.prog w = .ok (.slice (some ⟨w.heap.size, 0, none⟩) 1 1) (w.alloc (.cells (List.toArray (actC x)) 54)) := by
 simp [Instr.buildSlice, Instr.fill, go_sem, Tryz.runUnderlying31, actC]
theorem zjp (a : Am) : wA a.bare = lenX a.tx := by
 rw [zkB]
 unfold wA
 show sumT a.tx + 0 + 0 + 0 = _
 omega
structure TwoX (w0 w : World) (b : Nat) (sv dv : Sl) (l : List (Sv × Sgm)) (x : Ix) (c : Nat) (sv2 dv2 : Sl) (l2 : List (Sv × Sgm)) (y : Ix) : Prop where
 hx : IxM w b sv dv l x
 hy : IxM w c sv2 dv2 l2 y
 bx : Bs w0 w b sv dv l
 by_ : Bs w0 w c sv2 dv2 l2
 d : ∀ q, fpX b sv dv l q → ¬ fpX c sv2 dv2 l2 q
section
variable {w0 w w' : World} {b c : Nat} {sv dv sv2 dv2 sv' dv' : Sl} {l l2 l' : List (Sv × Sgm)} {x y x' y' : Ix}
theorem TwoX.mutX (h : TwoX w0 w b sv dv l x c sv2 dv2 l2 y) (m : MutX w w' b sv dv l sv' dv' l') (hx' : IxM w' b sv' dv' l' x') : TwoX w0 w' b sv' dv' l' x' c sv2 dv2 l2 y :=
 ⟨hx', h.hy.keepF m.k fun q hq e => h.d q e hq, h.bx.mut m, ⟨h.by_.K.trans m.k fun q hq e => by have := h.bx.lo q e; omega, h.by_.lo, h.by_.E⟩, fun q e e' => (m.f q e).elim (fun e => h.d q e e') fun e => by have := h.hy.fp_lt q e'; omega⟩
theorem TwoX.mutY (h : TwoX w0 w b sv dv l x c sv2 dv2 l2 y) (m : MutX w w' c sv2 dv2 l2 sv' dv' l') (hy' : IxM w' c sv' dv' l' y') : TwoX w0 w' b sv dv l x c sv' dv' l' y' :=
 ⟨h.hx.keepF m.k fun q hq e => h.d q hq e, hy', ⟨h.bx.K.trans m.k fun q hq e => by have := h.by_.lo q e; omega, h.bx.lo, h.bx.E⟩, h.by_.mut m, fun q e e' => (m.f q e').elim (fun e2 => h.d q e e2) fun e2 => by have := h.hx.fp_lt q e; omega⟩
theorem TwoX.keep (h : TwoX w0 w b sv dv l x c sv2 dv2 l2 y) (k : Kp w w' n_) : TwoX w0 w' b sv dv l x c sv2 dv2 l2 y := ⟨h.hx.keep0 k, h.hy.keep0 k, h.bx.keep k, h.by_.keep k, h.d⟩
end
theorem zrg {w0 w1 w2 : World} {b c : Nat} (hE : CEnv w0) (h1 : IxM w1 b ⟨none, 0, 0⟩ ⟨none, 0, 0⟩ [] emptyX) (k1 : Kp w0 w1 n_) (hb : w0.heap.size ≤ b) (h2 : IxM w2 c ⟨none, 0, 0⟩ ⟨none, 0, 0⟩ [] emptyX) (k2 : Kp w1 w2 n_) (hc : w1.heap.size ≤ c) : TwoX w0 w2 b ⟨none, 0, 0⟩ ⟨none, 0, 0⟩ [] emptyX c ⟨none, 0, 0⟩ ⟨none, 0, 0⟩ [] emptyX :=
 have hf : ∀ {b q : Nat}, fpX b ⟨none, 0, 0⟩ ⟨none, 0, 0⟩ [] q → q = b := fun e => by
  rcases e with e | e | e | ⟨p, hp, _⟩
  ·exact e
  ·cases e
  ·cases e
  ·cases hp
 ⟨h1.keep0 k2, h2, ⟨k1.trans0 k2, fun q e => by rw [hf e]; exact hb, hE⟩, ⟨k1.trans0 k2, fun q e => by rw [hf e]; have := k1.size; omega, hE⟩, fun q e e' => by have := hf e; have := hf e'; have := h1.var.lt; omega⟩
def PX (lt : List Am) (i : Nat) : List LDoc := (List.range i).map fun k => (((k + 1 : Nat) : Int), (lt.getD k default).tx)
def PY (lt : List Am) (i : Nat) : List LDoc := (List.range i).map fun k => (((lt.length - k : Nat) : Int), (lt.getD (lt.length - 1 - k) default).tx)
theorem PX_succ (lt : List Am) (i : Nat) : PX lt (i + 1) = PX lt i ++ [(((i + 1 : Nat) : Int), (lt.getD i default).tx)] := by unfold PX; rw [List.range_succ, List.map_append]; rfl
theorem PY_succ (lt : List Am) (i : Nat) : PY lt (i + 1) = PY lt i ++ [(((lt.length - i : Nat) : Int), (lt.getD (lt.length - 1 - i) default).tx)] := by unfold PY; rw [List.range_succ, List.map_append]; rfl
theorem PXY (lt : List Am) (e : LDoc) : e ∈ PX lt lt.length ↔ e ∈ PY lt lt.length := by
 unfold PX PY
 rw [List.mem_map, List.mem_map]
 constructor
 ·rintro ⟨k, hk, rfl⟩
  have := List.mem_range.1 hk
  exact ⟨lt.length - 1 - k, List.mem_range.2 (by omega), by rw [show lt.length - (lt.length - 1 - k) = k + 1 by omega, show lt.length - 1 - (lt.length - 1 - k) = k by omega]⟩
 ·rintro ⟨k, hk, rfl⟩
  have := List.mem_range.1 hk
  exact ⟨lt.length - 1 - k, List.mem_range.2 (by omega), by rw [show lt.length - 1 - k + 1 = lt.length - k by omega]⟩
def sX (lt : List Am) (i : Nat) : Nat := wAs ((lt.map Am.bare).take i)
def sY (lt : List Am) (i : Nat) : Nat := wAs ((lt.map Am.bare).reverse.take i)
theorem zrV {lt : List Am} {i : Nat} (h : i < lt.length) : sX lt (i + 1) = sX lt i + lenX (lt.getD i default).tx := by
 unfold sX
 rw [zhx (by simpa using h), List.getElem_map, zjp]
 simp [List.getD, h]
theorem zrL {lt : List Am} {i : Nat} (h : i < lt.length) : sY lt (i + 1) = sY lt i + lenX (lt.getD (lt.length - 1 - i) default).tx := by
 unfold sY
 rw [zhx (by simpa using h), List.getElem_reverse, List.getElem_map, zjp]
 simp [List.getD, show lt.length - 1 - i < lt.length by omega]
theorem zrt (l : List Am) : wAs l.reverse = wAs l := by
 unfold wAs
 rw [List.map_reverse, List.sum_reverse]
theorem zlY {P N Q : Nat} {x : Ix} (hx : IxOk x) (h : WtS P x.segs N Q) (field : Int) (ws : List (List UInt8)) : (phraseX x field ws).length ≤ N :=
 Nat.le_trans (zfV (zeY x field ws) fun d hd => zeT hx hd) (zmY hx h).2.2.2
section
variable {w : World}
theorem zlU {v vw : Value} (lt : List Am) (field : Int) (word : List UInt8) (ws : List (List UInt8)) (hr : RowO w v t6C lt) (hlt : lt.length ≤ 2000000) (hwt : wAs (lt.map Am.bare) ≤ 1000000000) (hws : RowO w vw txC ws) (hwc : CapK vw) (hwl : ws.length ≤ 2000000) (hwd : word.length ≤ 1000000000) (hE : CEnv w) :
  Calls Tryz.prog 9 #[v, .int .i64 field, .string (str word), vw] w fun e w' => e = .returned (.bool true) ∧ Kp w w' n_ := by
 obtain ⟨a, cap, rfl, hr⟩ := hr
 have hws0 := hws
 obtain ⟨wa, wc, rfl, _⟩ := hws
 have hz : (str word).size = word.length := rfl
 refine zaa (args := [.slice a lt.length cap, .int .i64 field, .string (str word), .slice wa ws.length wc]) Tryz.func9 rfl NL ?_; refine GW ?_
 refine KGO ?_
 refine CallS.of (Tryz.call11 _ _) (zlK (w := w) hE) ?_
 rintro e w1 ⟨rfl, k1⟩
 refine RT ?_
 refine KGO ?_
 refine CallS.of (Tryz.call16 _ _) (zlZ (w := w1)) ?_
 rintro e w2 ⟨rfl, hx, k2⟩
 obtain ⟨b, hb⟩ : ∃ b, w1.heap.size = b := ⟨_, rfl⟩
 rw [hb] at hx ⊢
 refine RT ?_
 refine KGO ?_
 refine CallS.of (Tryz.call16 _ _) (zlZ (w := w2)) ?_
 rintro e w3 ⟨rfl, hy, k3⟩
 obtain ⟨c, hc⟩ : ∃ c, w2.heap.size = c := ⟨_, rfl⟩
 rw [hc] at hy ⊢
 have T3 := zrg hE hx (k1.trans0 k2) (by have := k1.size; omega) hy k3 (by omega)
 have K3 := (k1.trans0 k2).trans0 k3
 clear hx hy k1 k2 k3
 refine RT ?_
 refine KGO ?_
 refine Loop.intro (ι := Nat × Sl) (fun q => [(0, .slice a lt.length cap), (1, .int .i64 field), (2, .string (str word)), (3, .slice wa ws.length wc), (9, .bool true), (10, .pointer (some ⟨b, 0, none⟩)), (11, .pointer (some ⟨c, 0, none⟩)), (12, .int .i64 (lt.length : Nat)), (13, .slice q.2.a q.2.n q.2.c), (14, .int .i64 (q.1 : Nat))])
  (fun q wr => Kp w3 wr n_ ∧ q.1 ≤ lt.length ∧ OwnR 54 actC 11 wr w3.heap.size q.2.v ((lt.map bareP).take q.1)) (fun q => lt.length - q.1) (0, ⟨none, 0, 0⟩) ⟨rfl, rfl, rfl, rfl, rfl, rfl, rfl, rfl, rfl, rfl, trivial⟩ ⟨Kp.refl _ _, Nat.zero_le _, World.ownsRow_nil _ _ _ _⟩ ?_
 rintro ⟨i, so⟩ gg wr ⟨hK, hi, ho⟩
 dsimp only at hi ho ⊢
 obtain ⟨aj, cj, ej⟩ := zab ho
 obtain ⟨ja, jn, jc⟩ := so
 injection ej with e1 e2 e3
 dsimp only at e1 e2 e3
 subst e1 e2 e3
 have hKw := K3.trans0 hK
 refine GW ?_
 by_cases hlt2 : i < lt.length
 ·obtain ⟨gb, o, rfl, hgb, hat⟩ := hr (by omega)
  have hat := zai hat hKw
  have qr := Kp.refl wr n_
  have hts : (lt.map bareP).take (i + 1) = (lt.map bareP).take i ++ [bareP lt[i]] := by rw [List.take_succ_eq_append_getElem (by simpa using hlt2), List.getElem_map]
  have hil : ((lt.map bareP).take i).length ≤ 2000000 := by rw [List.length_take, List.length_map]; omega
  generalize (lt.map bareP).take i = L at *
  refine KGO ?_
  refine RunV.of (zms lt[i] _) ?_
  refine KGO ?_
  refine RunV.of (bs1Act (bareP lt[i]) _) ?_
  obtain ⟨a_b4, v_b4, k_w4, z_w4, r_w4⟩ := new5 wr 54 (actC (bareP lt[i]))
  generalize wr.alloc (.cells (List.toArray (actC (bareP lt[i]))) 54) = w4 at *
  generalize hs_b4 : wr.heap.size = b4 at *
  have ho4 := zac ho k_w4
  have K4 := hK.trans0 k_w4
  have z4 := K4.size
  refine KGO ?_
  refine tyAct.app1 (bareP lt[i]) ho4 (by omega) a_b4 (by omega) (by omega) fun v5 w5 o5 k5 => ?_
  have K5 := zaE ho4 k5 K4 (Nat.le_refl _)
  obtain ⟨a5, c5, rfl⟩ := zab o5
  refine KGO ?_
  exact ⟨(i + 1, ⟨a5, _, c5⟩), ⟨rfl, rfl, rfl, rfl, rfl, rfl, rfl, rfl, rfl, v_int (by simp), trivial⟩, ⟨K5, by dsimp only; omega, by dsimp only; rw [hts]; exact o5⟩, by dsimp only; omega⟩
 obtain rfl : i = lt.length := by omega
 have T4 := T3.keep hK
 rw [List.take_of_length_le (by simp)] at ho ⊢
 have hml : (lt.map bareP).length = lt.length := List.length_map _
 have hmb : (lt.map bareP).map (·.2) = lt.map Am.bare := by rw [List.map_map]; rfl
 have hRA : RowA wr (.slice ja (lt.map bareP).length jc) (lt.map bareP) := ⟨zao ho, fun p hp => by
  obtain ⟨q, _, rfl⟩ := List.mem_map.1 hp
  exact ⟨none, 0, rfl, fun h => by cases h⟩, fun p hp => by
  obtain ⟨q, _, rfl⟩ := List.mem_map.1 hp
  exact zgh (Nat.le_refl _)⟩
 clear T3 K3 hK ho
 by_cases h10 : 10 < lt.length
 ·refine KGO ?_
  exact ⟨rfl, hKw⟩
 refine KGO ?_
 refine CallS.of (Tryz.call17 _ _) (zoP (w := wr) (lt.map bareP) hRA (by omega) (by rw [hmb]; exact hwt)) ?_
 rintro e w5 ⟨rfl, k5⟩
 have T5 := T4.keep k5
 have K5 := hKw.trans0 k5
 rw [hmb, hml]
 refine RT ?_
 by_cases hfw : lt.length ≤ 30 ∧ wAs (lt.map Am.bare) ≤ 1500
 rotate_left
 ·rw [decide_eq_false hfw]
  refine KGO ?_
  exact ⟨rfl, K5⟩
 rw [decide_eq_true hfw]
 obtain ⟨_, h1500⟩ := hfw
 by_cases h100 : 100 < word.length
 ·refine KGO ?_
  exact ⟨rfl, K5⟩
 by_cases hw10 : 10 < ws.length
 ·refine KGO ?_
  exact ⟨rfl, K5⟩
 clear hRA T4 hKw k5
 refine KGO ?_
 have hsx : ∀ i, sX lt i ≤ 1500 := fun i => Nat.le_trans (zla _ _) h1500
 have hsy : ∀ i, sY lt i ≤ 1500 := fun i => Nat.le_trans (zla _ _) (by rw [zrt]; exact h1500)
 refine Loop.intro (ι := Nat × (Sl × Sl × List (Sv × Sgm) × Ix) × (Sl × Sl × List (Sv × Sgm) × Ix)) (fun q => [(0, .slice a lt.length cap), (1, .int .i64 field), (2, .string (str word)), (3, .slice wa ws.length wc), (9, .bool true), (10, .pointer (some ⟨b, 0, none⟩)), (11, .pointer (some ⟨c, 0, none⟩)), (12, .int .i64 (lt.length : Nat)), (15, .int .i64 (q.1 : Nat))])
  (fun q wk => q.1 ≤ lt.length ∧ TwoX w wk b q.2.1.1 q.2.1.2.1 q.2.1.2.2.1 q.2.1.2.2.2 c q.2.2.1 q.2.2.2.1 q.2.2.2.2.1 q.2.2.2.2.2 ∧ (RunOk (q.2.1.2.2.2, PX lt q.1) ∧ RunOk (q.2.2.2.2.2, PY lt q.1)) ∧ Iw q.2.1.2.2.2 (5 * q.1) (10 * sX lt q.1 + 15 * q.1) (8 * sX lt q.1 + 20 * q.1) ∧ Iw q.2.2.2.2.2 (5 * q.1) (10 * sY lt q.1 + 15 * q.1) (8 * sY lt q.1 + 20 * q.1))
  (fun q => lt.length - q.1) (0, (⟨none, 0, 0⟩, ⟨none, 0, 0⟩, [], emptyX), (⟨none, 0, 0⟩, ⟨none, 0, 0⟩, [], emptyX)) ⟨rfl, rfl, rfl, rfl, rfl, rfl, rfl, rfl, rfl, trivial⟩ ⟨Nat.zero_le _, T5, ⟨zeU, zeU⟩, Iw.empty.mono (by omega) (by omega) (by omega), Iw.empty.mono (by omega) (by omega) (by omega)⟩ ?_
 clear T5 K5
 rintro ⟨i, ⟨sv, dv, l, x⟩, ⟨sv2, dv2, l2, y⟩⟩ gk wk ⟨hi, T, ⟨hRx, hRy⟩, Ix, Iy⟩
 dsimp only at hi T hRx hRy Ix Iy ⊢
 have hs1 := hsx i
 have hs2 := hsy i
 have K := T.bx.K
 refine GW ?_
 by_cases hlt3 : i < lt.length
 ·obtain ⟨gb, o, rfl, hgb, hat⟩ := hr (by omega)
  have hat := zai hat K
  have qk := Kp.refl wk n_
  have hpx := PX_succ lt i
  have hpy := PY_succ lt i
  have hxs := zrV hlt3
  have hys := zrL hlt3
  have hs3 := hsx (i + 1)
  have hs4 := hsy (i + 1)
  have hj : lt.length - 1 - i < lt.length := by omega
  rw [show lt.getD i default = lt[i] by simp [List.getD, hlt3]] at hpx hxs
  rw [show lt.getD (lt.length - 1 - i) default = lt[lt.length - 1 - i] by simp [List.getD, hj]] at hpy hys
  have hl1 : lenX lt[i].tx ≤ 1500 := by omega
  have hl2 : lenX lt[lt.length - 1 - i].tx ≤ 1500 := by omega
  have hax := zhJ hRx (doc := (i : Int) + 1) (tx := lt[i].tx) (fun t ht => by have := zeF (tx := lt[i].tx) rfl t ht; omega) (by omega) (fun e he => by
   unfold PX at he
   obtain ⟨k, hk, rfl⟩ := List.mem_map.1 he
   have := List.mem_range.1 hk
   dsimp only; omega)
  have hay := zhJ hRy (doc := (lt.length : Int) - (i : Int)) (tx := lt[lt.length - 1 - i].tx) (fun t ht => by have := zeF (tx := lt[lt.length - 1 - i].tx) rfl t ht; omega) (by omega) (fun e he => by
   unfold PY at he
   obtain ⟨k, hk, rfl⟩ := List.mem_map.1 he
   have := List.mem_range.1 hk
   dsimp only; omega)
  have Ix2 := Ix.add (doc := (i : Int) + 1) (tx := lt[i].tx) rfl hl1
  have Iy2 := Iy.add (doc := (lt.length : Int) - (i : Int)) (tx := lt[lt.length - 1 - i].tx) rfl hl2
  dsimp only at hax hay
  obtain ⟨hax1, hRx2⟩ := hax
  obtain ⟨hay1, hRy2⟩ := hay
  refine KGO ?_
  refine CallS.of (Tryz.call24 _ _) (zgB (w := wk) T.hx (Ix.b (by omega) (by omega)) T.bx ((i : Int) + 1) lt[i].t0 lt[i].t1 lt[i].t2 lt[i].t3 lt[i].t4 lt[i].t5 (Nat.le_trans hl1 (by omega)) (by omega)) ?_
  rintro e w6 ⟨rfl, sv6, dv6, l6, h6, M6⟩
  rw [show ([lt[i].t0, lt[i].t1, lt[i].t2, lt[i].t3, lt[i].t4, lt[i].t5] : List (List UInt8)) = lt[i].tx from rfl] at h6 ⊢
  rw [hax1]
  have T6 := T.mutX M6 h6
  generalize (addX x ((i : Int) + 1) lt[i].tx).2 = x6 at *
  have hat6 : At w6 gb o (lt.flatMap t6C) := zaL hat M6.k fun e => by have := T.bx.lo gb e; omega
  have q6 := Kp.refl w6 n_
  clear hat qk T h6 M6 hax1
  refine RT ?_
  refine KGO ?_
  have e1 : ((lt.length : Int) - 1 - (i : Int)).toNat = lt.length - 1 - i := by omega
  have e2 : lt[((lt.length : Int) - 1 - (i : Int)).toNat]'(by omega) = lt[lt.length - 1 - i]'hj := by simp only [e1]
  rw [e2]
  refine CallS.of (Tryz.call24 _ _) (zgB (w := w6) T6.hy (Iy.b (by omega) (by omega)) T6.by_ ((lt.length : Int) - (i : Int)) (lt[lt.length - 1 - i]'hj).t0 (lt[lt.length - 1 - i]'hj).t1 (lt[lt.length - 1 - i]'hj).t2 (lt[lt.length - 1 - i]'hj).t3 (lt[lt.length - 1 - i]'hj).t4 (lt[lt.length - 1 - i]'hj).t5 (Nat.le_trans hl2 (by omega)) (by omega)) ?_
  rintro e w7 ⟨rfl, sv7, dv7, l7, h7, M7⟩
  rw [show ([(lt[lt.length - 1 - i]'hj).t0, (lt[lt.length - 1 - i]'hj).t1, (lt[lt.length - 1 - i]'hj).t2, (lt[lt.length - 1 - i]'hj).t3, (lt[lt.length - 1 - i]'hj).t4, (lt[lt.length - 1 - i]'hj).t5] : List (List UInt8)) = lt[lt.length - 1 - i].tx from rfl] at h7 ⊢
  rw [hay1]
  have T7 := T6.mutY M7 h7
  generalize (addX y ((lt.length : Int) - (i : Int)) (lt[lt.length - 1 - i]'hj).tx).2 = y7 at *
  clear T6 h7 M7 hay1 hat6 q6
  refine RT ?_
  refine KGO ?_
  refine CallS.of (Tryz.call31 _ _) (zmQ (w := w7) T7.hx (Ix2.b (by omega) (by omega)) T7.bx.env) ?_
  rintro e w8 ⟨rfl, sv8, dv8, l8, h8, M8⟩
  have T8 := T7.mutX M8 h8
  refine RT ?_
  refine KGO ?_
  refine ⟨(i + 1, ⟨sv8, dv8, l8, (stepX x6).2⟩, ⟨sv7, dv7, l7, y7⟩), ⟨rfl, rfl, rfl, rfl, rfl, rfl, rfl, rfl, v_int (by simp), trivial⟩, ⟨by dsimp only; omega, T8, ⟨?_, ?_⟩, ?_, ?_⟩, by dsimp only; omega⟩
  ·dsimp only
   have := zph hRx2
   rw [hpx]
   exact this
  ·dsimp only
   rw [hpy, show ((lt.length - i : Nat) : Int) = (lt.length : Int) - (i : Int) by omega]
   exact hRy2
  ·exact Ix2.step.mono (by dsimp only; omega) (by dsimp only; omega) (by dsimp only; omega)
  ·exact Iy2.mono (by dsimp only; omega) (by dsimp only; omega) (by dsimp only; omega)
 obtain rfl : i = lt.length := by omega
 clear hr hsx hsy
 have hol := fun f g => (zgx hRx hRy (PXY lt) f g ws).1
 have hop := fun f => (zgx hRx hRy (PXY lt) f (fun _ => true) ws).2
 dsimp only at hol hop
 have lx := fun f q => zis Ix.ok Ix.wt f q
 have hNx : 5 * lt.length ≤ 50 := by omega
 refine KGO ?_
 refine CallS.of (Tryz.call19 _ _) (zfE (w := wk) T.hx (Ix.b (by omega) (by omega)) T.bx.env field word) ?_
 rintro e w6 ⟨v6, rfl, o6, k6⟩
 have T6 := T.keep k6
 obtain ⟨a6, c6, rfl⟩ := o6.shape
 refine RT ?_
 refine KGO ?_
 refine CallS.of (Tryz.call19 _ _) (zfE (w := w6) T6.hy (Iy.b (by omega) (by omega)) T6.by_.env field word) ?_
 rintro e w7 ⟨v7, rfl, o7, k7⟩
 have T7 := T6.keep k7
 obtain ⟨a7, c7, rfl⟩ := o7.shape
 rw [← hol] at o7 ⊢
 refine RT ?_
 refine KGO ?_
 obtain ⟨q1, q2⟩ := lx field (eqW word)
 refine CallS.of (Tryz.call23 _ _) (zhN (w := w7) (lookX x field (eqW word)) (lookX x field (eqW word)) (o6.keep k7).row o7.row (by omega) (by omega) (fun p hp => by have := q2 p hp; omega) (fun p hp => by have := q2 p hp; omega)) ?_
 rintro e w8 ⟨rfl, k8⟩
 have T8 := T7.keep k8
 rw [decide_eq_true rfl]
 clear o6 o7 T T6 T7 k6 k7 k8 q1 q2
 refine RT ?_
 refine KGO ?_
 refine CallS.of (Tryz.call34 _ _) (zhY (w := w8) T8.hx (Ix.b (by omega) (by omega)) T8.bx.env field word) ?_
 rintro e w6 ⟨v6, rfl, o6, k6⟩
 have T6 := T8.keep k6
 obtain ⟨a6, c6, rfl⟩ := o6.shape
 refine RT ?_
 refine KGO ?_
 refine CallS.of (Tryz.call34 _ _) (zhY (w := w6) T6.hy (Iy.b (by omega) (by omega)) T6.by_.env field word) ?_
 rintro e w7 ⟨v7, rfl, o7, k7⟩
 have T7 := T6.keep k7
 obtain ⟨a7, c7, rfl⟩ := o7.shape
 rw [← hol] at o7 ⊢
 refine RT ?_
 refine KGO ?_
 obtain ⟨q1, q2⟩ := lx field (fun x => hasPrefix x word)
 refine CallS.of (Tryz.call23 _ _) (zhN (w := w7) (lookX x field (fun x => hasPrefix x word)) (lookX x field (fun x => hasPrefix x word)) (o6.keep k7).row o7.row (by omega) (by omega) (fun p hp => by have := q2 p hp; omega) (fun p hp => by have := q2 p hp; omega)) ?_
 rintro e w9 ⟨rfl, k8⟩
 have T9 := T7.keep k8
 rw [decide_eq_true rfl]
 clear o6 o7 T8 T6 T7 k6 k7 k8 q1 q2
 refine RT ?_
 refine KGO ?_
 refine CallS.of (Tryz.call37 _ _) (zcQ (w := w9) T9.hx (Ix.b (by omega) (by omega)) T9.bx.env (zdB Ix (by omega)) field ws (hws0.keep T9.bx.K) hwc (by omega)) ?_
 rintro e w6 ⟨v6, rfl, o6, k6⟩
 have T6 := T9.keep k6
 obtain ⟨a6, c6, rfl⟩ := zab o6
 refine RT ?_
 refine KGO ?_
 refine CallS.of (Tryz.call37 _ _) (zcQ (w := w6) T6.hy (Iy.b (by omega) (by omega)) T6.by_.env (zdB Iy (by omega)) field ws (hws0.keep T6.bx.K) hwc (by omega)) ?_
 rintro e w7 ⟨v7, rfl, o7, k7⟩
 have T7 := T6.keep k7
 obtain ⟨a7, c7, rfl⟩ := zab o7
 rw [← hop] at o7 ⊢
 have hpl : (phraseX x field ws).length ≤ 1000000 := Nat.le_trans (zlY Ix.ok Ix.wt field ws) (by omega)
 refine RT ?_
 refine KGO ?_
 refine CallS.of (Tryz.call36 _ _) (zfI (w := w7) (phraseX x field ws) (phraseX x field ws) (zao (zac o6 k7)) (zao o7) hpl hpl) ?_
 rintro e w8 ⟨rfl, k8⟩
 rw [decide_eq_true rfl]
 refine RT ?_
 refine KGO ?_
 exact ⟨rfl, T7.bx.K.trans0 k8⟩
end
end Go.Proofs.YtennokckmjcefaaGreatDoor
namespace Go.Proofs.YtennokckmjcefaaGreatDoor
open Go.Shelf Go.RowKit Go.Pw Go.Vc Go.Cs Go.Lib Go.Mg
instance : Inhabited Ent := ⟨⟨0, 0, []⟩⟩
instance : Inhabited (Sv × Sgm) := ⟨(default, ⟨[], []⟩)⟩
section
end
end Go.Proofs.YtennokckmjcefaaGreatDoor
