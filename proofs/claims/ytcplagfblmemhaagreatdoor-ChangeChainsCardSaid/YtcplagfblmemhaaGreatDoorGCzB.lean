/- Helper text of this claim: lemmas and contracts that the proved statement rests on; no conditions of its own. -/
import Derived.Test.YtcplagfblmemhaaGreatDoorRows
import Derived.Lib.LaidU8
import Derived.Test.YtcplagfblmemhaaGreatDoorGCz8
namespace Go.Proofs.YtcplagfblmemhaaGreatDoor
set_option linter.unusedVariables false
set_option maxHeartbeats 16000000
open Go.Shelf Go.RowKit Go.Pw Go.Vc Go.Cs Go.Lib Go.Cd Go.Cx
set_option linter.unusedVariables false
set_option maxRecDepth 100000
section
variable {w : World}
theorem zhy {v : Value} (l : List Opr) (fr md : Int) (hv : RowOp w v l) (hl : l.length ≤ 1000000000000) (hf : ∀ o ∈ l, FitO o) (hfr : -9223372036854775808 ≤ fr ∧ fr ≤ 9223372036854775807) (hmd : -9223372036854775808 ≤ md ∧ md ≤ 9223372036854775807) (hcp : CapV v) (hnil : ∀ a n c, v = .slice a n c → a = none) (hE : BEnv w) :
    Calls Tryz.prog 4 #[v, .int .i64 fr, .int .i64 md] w fun e w' => e = .returned (.bool true) ∧ Kp w w' n_ := by
  obtain ⟨hfr1, hfr2⟩ := hfr
  obtain ⟨hmd1, hmd2⟩ := hmd
  have hv0 := hv
  obtain ⟨lv, hlv, hr, hop⟩ := hv
  have hlen : lv.length = l.length := by rw [← hlv, List.length_map]
  obtain ⟨a, cap, rfl, hr⟩ := hr
  refine zaa (args := [.slice a lv.length cap, .int .i64 fr, .int .i64 md]) Tryz.func4 rfl NL ?_; refine GW ?_
  refine CallS.of (Tryz.call6 _ _) (zgw (w := w)) ?_
  rintro e w1 ⟨rfl, k1⟩
  refine RT ?_
  refine KGO ?_
  refine CallS.of (Tryz.call7 _ _) (zhw (w := w1) l (zbL hv0 k1) hl) ?_
  rintro e w2 ⟨⟨q, rfl, hq⟩, k2⟩
  have K2 := k1.trans0 k2
  refine RT ?_
  cases q with
  | false =>
    refine KGO ?_
    exact ⟨rfl, K2⟩
  | true =>
  have h40 : l.length ≤ 40 := hq rfl
  clear hq
  refine KGO ?_
  refine CallS.of (Tryz.call8 _ _) (zeH (w := w2) l 256 (zbL hv0 K2) h40 hf (by omega) (by omega) (hE.keep K2)) ?_
  rintro e w3 ⟨s, nb, H, rfl, hH, hacc, hnb1, hnb2, hHl, k3⟩
  have K3 := K2.trans0 k3
  have hH0 : 0 < H.length := by have := hH.chain.ne; rwa [List.length_map] at this
  clear hr hop
  obtain ⟨sa, sn, sc⟩ := s
  obtain rfl : sn = H.length := zcc hH.own
  refine RT ?_
  refine KGO ?_
  refine Store.fresh (vs := [.slice sa H.length sc, .pointer (some ⟨nb, 0, none⟩)]) (by rfl) rfl (zam (by rfl)) ?_
  obtain ⟨a_b8, k_w4, z_w4⟩ := new3 w3 28 ([.slice sa H.length sc, .pointer (some ⟨nb, 0, none⟩)])
  generalize w3.alloc (.cells (List.toArray ([.slice sa H.length sc, .pointer (some ⟨nb, 0, none⟩)])) 28) = w4 at *
  generalize hs_b8 : w3.heap.size = b8 at *
  have hH := hH.keep0 k_w4
  have K4 := K3.trans0 k_w4
  refine KGO ?_
  by_cases c3 : fr < 0
  · refine KGO ?_
    exact ⟨rfl, K4⟩
  by_cases c4 : md < fr
  · refine KGO ?_
    exact ⟨rfl, K4⟩
  by_cases c5 : (H.length : Int) ≤ md
  · refine KGO ?_
    exact ⟨rfl, K4⟩
  obtain ⟨p, rfl⟩ := Int.eq_ofNat_of_zero_le (show 0 ≤ fr by omega)
  obtain ⟨m, rfl⟩ := Int.eq_ofNat_of_zero_le (show 0 ≤ md by omega)
  have hcut := fun w' => zlQ a lv.length cap (hcp a lv.length cap rfl).1 (hcp a lv.length cap rfl).2.1 w'
  obtain rfl := hnil _ _ _ rfl
  refine KGO ?_
  refine RunV.of (hcut _) ?_
  refine KGO ?_
  refine CallS.of (Tryz.call8 _ _) (zeH (w := w4) l 256 (zbL hv0 K4) h40 hf (by omega) (by omega) (hE.keep K4)) ?_
  rintro e w5 ⟨s2, nb2, H2, rfl, hH2, hacc2, hnb3, hnb4, hHl2, k5⟩
  have hae : accs H2 = accs H := hacc2.trans hacc.symm
  have hll : H2.length = H.length := by have := congrArg List.length hae; rwa [List.length_map, List.length_map] at this
  obtain ⟨sa2, sn2, sc2⟩ := s2
  obtain rfl : sn2 = H2.length := zcc hH2.own
  have K5 := K4.trans0 k5
  refine RT ?_
  refine KGO ?_
  refine Store.fresh (vs := [.slice sa2 H2.length sc2, .pointer (some ⟨nb2, 0, none⟩)]) (by rfl) rfl (zam (by rfl)) ?_
  obtain ⟨a_b10, k_w6, z_w6⟩ := new3 w5 28 ([.slice sa2 H2.length sc2, .pointer (some ⟨nb2, 0, none⟩)])
  generalize w5.alloc (.cells (List.toArray ([.slice sa2 H2.length sc2, .pointer (some ⟨nb2, 0, none⟩)])) 28) = w6 at *
  generalize hs_b10 : w5.heap.size = b10 at *
  have a_b8 := zaf a_b8 (k5.trans0 k_w6)
  have hH := hH.keep0 (k5.trans0 k_w6)
  have K6 := K5.trans0 k_w6
  refine KGO ?_
  obtain ⟨hg, rfl, hgB, hgl, hrow⟩ := zcI hH.own hH0
  have hstl : ∀ t (ht : t < H.length), 0 ≤ (H[t]).2.st ∧ (H[t]).2.st ≤ 1099511627776 := fun t ht => by
    have g := hH.chain.good t (by rw [List.length_map]; exact ht)
    rw [List.getElem_map] at g
    have := g.top
    have := g.st
    unfold M40 at *
    omega
  have hs0 := hstl 0 hH0
  have kr6 := Kp.refl w6 n_
  have cW := hH.chain
  have hWl : (accs H).length = H.length := List.length_map _
  have hWt : ∀ t (ht : t < H.length), (accs H)[t]'(by omega) = (H[t]).2 := fun t ht => List.getElem_map _
  refine KGO ?_
  refine CallS.of (Tryz.call12 _ _) (zcJ (H[0].2.st) 256 (by omega)) ?_
  rintro e w7 (⟨hbad, _⟩ | ⟨_, rfl, bk, k7⟩)
  · omega
  have bk0 : bookA 256 ((accs H).take 1) = ⟨H[0].2.st, 256, []⟩ := by
    have h1 : notesOf ((accs H).take 1) = [] := List.eq_nil_of_length_eq_zero (by rw [zaY, List.length_take]; omega)
    unfold bookA
    rw [h1, zaI (by rw [List.length_take]; omega), List.getElem_take, hWt 0 hH0]
    simp
  rw [← bk0] at bk
  generalize hnbk : w6.heap.size = nbk at *
  refine RT ?_
  refine KGO ?_
  refine Loop.intro (ι := Nat) (fun i => [(1, .int .i64 (p : Nat)), (2, .int .i64 (m : Nat)), (7, .bool true), (8, .pointer (some ⟨b8, 0, none⟩)), (12, .pointer (some ⟨nbk, 0, none⟩)), (13, .int .i64 ((i + 1 : Nat) : Int))])
    (fun i wr => Kp w6 wr n_ ∧ i ≤ m ∧ ∃ vb hsb, BkAt wr nbk nbk vb hsb (bookA 256 ((accs H).take (i + 1)))) (fun i => m - i) 0 ⟨rfl, rfl, rfl, rfl, rfl, rfl, trivial⟩ ⟨k7, Nat.zero_le _, _, _, bk⟩ ?_
  rintro i gg wr ⟨hK, hi, vb, hsb, bk⟩
  clear kr6
  refine GW ?_
  by_cases hlt : i < m
  rotate_left
  · obtain rfl : i = m := by omega
    have hpH : p < H.length := by omega
    have hiH : i < H.length := by omega
    have hzr := hK.size
    have kr := Kp.refl wr n_
    have hHr := hH.keep0 hK
    have hrowr := zaf hrow hK
    have a_b8r := zaf a_b8 hK
    have hsa := zbM cW (by omega) (show p ≤ i by omega) (show i < (accs H).length by omega)
    have hsb' := zbM cW (by omega) (show i ≤ (accs H).length - 1 by omega) (show (accs H).length - 1 < (accs H).length by omega)
    have hsc := zbM cW (by omega) (show p ≤ (accs H).length - 1 by omega) (show (accs H).length - 1 < (accs H).length by omega)
    rw [show (accs H).length - 1 + 1 = (accs H).length by omega, List.take_length] at hsb' hsc
    rw [hWt p hpH] at hsa hsc
    rw [hWt i hiH] at hsb'
    have hmT : ∀ l ∈ (bookA 256 ((accs H).take (i + 1))).notes, l.length ≤ 1000 := zbN (zdf cW (by omega)) (by rw [zaI (by rw [List.length_take]; omega), List.getElem_take]; have := hH.zero; rwa [zaI (by omega)] at this) (by rw [List.length_take]; omega)
    have hmW : ∀ l ∈ (bookA 256 (accs H)).notes, l.length ≤ 1000 := zbN cW hH.zero (by omega)
    have hsp := hstl p hpH
    have hsi := hstl i hiH
    obtain ⟨vb2, hsb2, bkW⟩ := hHr.book
    have lnet := fun i' j of a b => ziu cW hH.zero (by omega) i' j of a b
    have hch := fun n => chains cW (show p ≤ i by omega) (show i < (accs H).length by omega) n
    refine KGO ?_
    refine CallS.of (Tryz.call9 _ _) (zaW (w := wr) bk hmT (H[p]).2.st 1 (by omega)) ?_
    rw [hsa]
    rintro e x1 ⟨⟨m1, d1, g1, rfl, om1, oc1, og1⟩, k1'⟩
    dsimp only at om1 oc1 og1 ⊢
    have rm1 := zak om1 rfl
    have rc1 := zak oc1 rfl
    have rg1 := zak og1 rfl
    clear om1 oc1 og1 hsa hmT bk
    refine RT ?_
    refine KGO ?_
    refine Store.fresh (vs := [m1.v, d1.v, g1.v, .int .i64 ((accs H)[i]'(by omega)).st]) (by rfl) rfl (zam (by rfl)) ?_
    obtain ⟨a_b14, k_x2, z_x2⟩ := new3 x1 39 ([m1.v, d1.v, g1.v, .int .i64 ((accs H)[i]'(by omega)).st])
    generalize x1.alloc (.cells (List.toArray ([m1.v, d1.v, g1.v, .int .i64 ((accs H)[i]'(by omega)).st])) 39) = x2 at *
    generalize hs_b14 : x1.heap.size = b14 at *
    have kx2 : Kp wr x2 n_ := k1'.trans0 k_x2
    have rm1 := rm1.keep k_x2
    have rc1 := rc1.keep k_x2
    have rg1 := rg1.keep k_x2
    refine KGO ?_
    refine Draw.cut (ι := Nat × Sl × Sl × Sl) (fun q => [(1, .int .i64 (p : Nat)), (2, .int .i64 (i : Nat)), (7, .bool true), (8, .pointer (some ⟨b8, 0, none⟩)), (14, .pointer (some ⟨b14, 0, none⟩)), (15, .int .i64 0), (16, .pointer (some ⟨q.1, 0, none⟩)), (17, .int .i64 0)]) (fun q u => Kp x2 u n_ ∧ VarK u q.1 39 [q.2.1.v, q.2.2.1.v, q.2.2.2.v, .int .i64 ((accs H)[(accs H).length - 1]'(by omega)).st] ∧ RowI u q.2.1.v (netA (csOf (accs H) i ((accs H).length - 1)) 1 false true) ∧ RowI u q.2.2.1.v (netA (csOf (accs H) i ((accs H).length - 1)) 1 true true) ∧ RowI u q.2.2.2.v (netA (csOf (accs H) i ((accs H).length - 1)) 1 true false)) ?_ ?_
    · have kd : Kp x2 (x2).drew n_ := (Kp.refl x2 n_).drew
      have hrz := zaf hrowr kx2
      have a8z := zaf a_b8r kx2
      clear hrowr a_b8r hrow a_b8
      refine Draw.ways (fun u => Kp x2 u n_) (fun _ => true) [[0, 1, 2, 3, 4, 5, 6, 7, 8, 9, 10, 11, 12, 13, 14], [0, 1, 2, 3, 4, 5, 6, 7, 12, 8, 9, 10, 11, 13, 14]] (by decide +kernel) kd ?_
      intro L' hL'
      simp only [List.mem_cons, List.not_mem_nil, or_false] at hL'
      rcases hL' with rfl | rfl
      · refine KGO ?_
        refine CallS.of (Tryz.call9 _ _) (zaW (w := (x2).drew) (bkW.keep0 (kx2).drew) hmW (H[i]).2.st 1 (by omega)) ?_
        rw [hsb']
        rintro e y1 ⟨⟨m2, d2, g2, rfl, om, oc, og⟩, k1⟩
        dsimp only at om oc og ⊢
        have J1 : Kp x2 y1 n_ := kd.trans0 k1
        refine RT ?_
        refine ⟨J1, ?_⟩
        refine KGO ?_
        obtain ⟨a_bz, v_bz, k_y2, z_y2, r_y2⟩ := new5 y1 39 ([.slice none 0 0, .slice none 0 0, .slice none 0 0, .int .i64 0])
        generalize y1.alloc (.cells (List.toArray ([.slice none 0 0, .slice none 0 0, .slice none 0 0, .int .i64 0])) 39) = y2 at *
        generalize hs_bz : y1.heap.size = bz at *
        have J2 := J1.trans0 k_y2
        refine ⟨J2, ?_⟩
        refine KGO ?_
        refine Store.varK [m2.v, d2.v, g2.v, .int .i64 ((accs H)[(accs H).length - 1]'(by omega)).st] v_bz (by rfl) rfl (zam (by rfl)) fun y3 v3 k3 => ?_
        have J3 : Kp x2 y3 n_ := zan J2 k3 (by have := J1.size; omega)
        refine ⟨J3, ?_⟩
        refine KGO ?_
        have om := zab om k_y2
        have oc := zab oc k_y2
        have og := zab og k_y2
        exact ⟨(bz, m2, d2, g2), ⟨rfl, rfl, rfl, rfl, rfl, rfl, rfl, rfl, trivial⟩, J3, v3, zak (zad om k3 fun q hq e => by have e : q = bz := e; subst e; exact zae om v_bz (by decide) hq) rfl, zak (zad oc k3 fun q hq e => by have e : q = bz := e; subst e; exact zae oc v_bz (by decide) hq) rfl, zak (zad og k3 fun q hq e => by have e : q = bz := e; subst e; exact zae og v_bz (by decide) hq) rfl⟩
      · refine KGO ?_
        obtain ⟨a_bz, v_bz, k_y2, z_y2, r_y2⟩ := new5 (x2).drew 39 ([.slice none 0 0, .slice none 0 0, .slice none 0 0, .int .i64 0])
        generalize (x2).drew.alloc (.cells (List.toArray ([.slice none 0 0, .slice none 0 0, .slice none 0 0, .int .i64 0])) 39) = y2 at *
        generalize hs_bz : (x2).drew.heap.size = bz at *
        have J2 : Kp x2 y2 n_ := kd.trans0 k_y2
        refine ⟨J2, ?_⟩
        refine KGO ?_
        refine CallS.of (Tryz.call9 _ _) (zaW (w := y2) (bkW.keep0 ((kx2).trans0 J2)) hmW (H[i]).2.st 1 (by omega)) ?_
        rw [hsb']
        rintro e y1 ⟨⟨m2, d2, g2, rfl, om, oc, og⟩, k1⟩
        dsimp only at om oc og ⊢
        have J1 : Kp x2 y1 n_ := J2.trans0 k1
        have v_bz := v_bz.keep0 k1
        refine RT ?_
        refine ⟨J1, ?_⟩
        refine KGO ?_
        refine Store.varK [m2.v, d2.v, g2.v, .int .i64 ((accs H)[(accs H).length - 1]'(by omega)).st] v_bz (by rfl) rfl (zam (by rfl)) fun y3 v3 k3 => ?_
        have J3 : Kp x2 y3 n_ := zan J1 k3 (by have := kd.size; omega)
        refine ⟨J3, ?_⟩
        refine KGO ?_
        exact ⟨(bz, m2, d2, g2), ⟨rfl, rfl, rfl, rfl, rfl, rfl, rfl, rfl, trivial⟩, J3, v3, zak (zad om k3 fun q hq e => by have e : q = bz := e; subst e; exact zae om v_bz (by decide) hq) rfl, zak (zad oc k3 fun q hq e => by have e : q = bz := e; subst e; exact zae oc v_bz (by decide) hq) rfl, zak (zad og k3 fun q hq e => by have e : q = bz := e; subst e; exact zae og v_bz (by decide) hq) rfl⟩
    rintro ⟨b16, m2, d2, g2⟩ gg2 x3 ⟨kx3, v16, rm2, rc2, rg2⟩
    dsimp only at v16 rm2 rc2 rg2 ⊢
    have kx3' := kx2.trans0 kx3
    refine KGO ?_
    refine Draw.cut (ι := Nat × Sl × Sl × Sl) (fun q => [(1, .int .i64 (p : Nat)), (2, .int .i64 (i : Nat)), (7, .bool true), (14, .pointer (some ⟨b14, 0, none⟩)), (15, .int .i64 0), (16, .pointer (some ⟨b16, 0, none⟩)), (17, .int .i64 0), (18, .pointer (some ⟨q.1, 0, none⟩)), (19, .int .i64 0)]) (fun q u => Kp x3 u n_ ∧ VarK u q.1 39 [q.2.1.v, q.2.2.1.v, q.2.2.2.v, .int .i64 ((accs H)[(accs H).length - 1]'(by omega)).st] ∧ RowI u q.2.1.v (netA (csOf (accs H) p ((accs H).length - 1)) 1 false true) ∧ RowI u q.2.2.1.v (netA (csOf (accs H) p ((accs H).length - 1)) 1 true true) ∧ RowI u q.2.2.2.v (netA (csOf (accs H) p ((accs H).length - 1)) 1 true false)) ?_ ?_
    · have kd : Kp x3 (x3).drew n_ := (Kp.refl x3 n_).drew
      have hrz := zaf hrowr kx3'
      have a8z := zaf a_b8r kx3'
      clear hrowr a_b8r hrow a_b8
      refine Draw.ways (fun u => Kp x3 u n_) (fun _ => true) [[0, 1, 2, 3, 4, 5, 6, 7, 8, 9, 10, 11, 12, 13, 14], [0, 1, 2, 3, 4, 5, 6, 7, 12, 8, 9, 10, 11, 13, 14]] (by decide +kernel) kd ?_
      intro L' hL'
      simp only [List.mem_cons, List.not_mem_nil, or_false] at hL'
      rcases hL' with rfl | rfl
      · refine KGO ?_
        refine CallS.of (Tryz.call9 _ _) (zaW (w := (x3).drew) (bkW.keep0 (kx3').drew) hmW (H[p]).2.st 1 (by omega)) ?_
        rw [hsc]
        rintro e y1 ⟨⟨m2, d2, g2, rfl, om, oc, og⟩, k1⟩
        dsimp only at om oc og ⊢
        have J1 : Kp x3 y1 n_ := kd.trans0 k1
        refine RT ?_
        refine ⟨J1, ?_⟩
        refine KGO ?_
        obtain ⟨a_bz, v_bz, k_y2, z_y2, r_y2⟩ := new5 y1 39 ([.slice none 0 0, .slice none 0 0, .slice none 0 0, .int .i64 0])
        generalize y1.alloc (.cells (List.toArray ([.slice none 0 0, .slice none 0 0, .slice none 0 0, .int .i64 0])) 39) = y2 at *
        generalize hs_bz : y1.heap.size = bz at *
        have J2 := J1.trans0 k_y2
        refine ⟨J2, ?_⟩
        refine KGO ?_
        refine Store.varK [m2.v, d2.v, g2.v, .int .i64 ((accs H)[(accs H).length - 1]'(by omega)).st] v_bz (by rfl) rfl (zam (by rfl)) fun y3 v3 k3 => ?_
        have J3 : Kp x3 y3 n_ := zan J2 k3 (by have := J1.size; omega)
        refine ⟨J3, ?_⟩
        refine KGO ?_
        have om := zab om k_y2
        have oc := zab oc k_y2
        have og := zab og k_y2
        exact ⟨(bz, m2, d2, g2), ⟨rfl, rfl, rfl, rfl, rfl, rfl, rfl, rfl, rfl, trivial⟩, J3, v3, zak (zad om k3 fun q hq e => by have e : q = bz := e; subst e; exact zae om v_bz (by decide) hq) rfl, zak (zad oc k3 fun q hq e => by have e : q = bz := e; subst e; exact zae oc v_bz (by decide) hq) rfl, zak (zad og k3 fun q hq e => by have e : q = bz := e; subst e; exact zae og v_bz (by decide) hq) rfl⟩
      · refine KGO ?_
        obtain ⟨a_bz, v_bz, k_y2, z_y2, r_y2⟩ := new5 (x3).drew 39 ([.slice none 0 0, .slice none 0 0, .slice none 0 0, .int .i64 0])
        generalize (x3).drew.alloc (.cells (List.toArray ([.slice none 0 0, .slice none 0 0, .slice none 0 0, .int .i64 0])) 39) = y2 at *
        generalize hs_bz : (x3).drew.heap.size = bz at *
        have J2 : Kp x3 y2 n_ := kd.trans0 k_y2
        refine ⟨J2, ?_⟩
        refine KGO ?_
        refine CallS.of (Tryz.call9 _ _) (zaW (w := y2) (bkW.keep0 ((kx3').trans0 J2)) hmW (H[p]).2.st 1 (by omega)) ?_
        rw [hsc]
        rintro e y1 ⟨⟨m2, d2, g2, rfl, om, oc, og⟩, k1⟩
        dsimp only at om oc og ⊢
        have J1 : Kp x3 y1 n_ := J2.trans0 k1
        have v_bz := v_bz.keep0 k1
        refine RT ?_
        refine ⟨J1, ?_⟩
        refine KGO ?_
        refine Store.varK [m2.v, d2.v, g2.v, .int .i64 ((accs H)[(accs H).length - 1]'(by omega)).st] v_bz (by rfl) rfl (zam (by rfl)) fun y3 v3 k3 => ?_
        have J3 : Kp x3 y3 n_ := zan J1 k3 (by have := kd.size; omega)
        refine ⟨J3, ?_⟩
        refine KGO ?_
        exact ⟨(bz, m2, d2, g2), ⟨rfl, rfl, rfl, rfl, rfl, rfl, rfl, rfl, rfl, trivial⟩, J3, v3, zak (zad om k3 fun q hq e => by have e : q = bz := e; subst e; exact zae om v_bz (by decide) hq) rfl, zak (zad oc k3 fun q hq e => by have e : q = bz := e; subst e; exact zae oc v_bz (by decide) hq) rfl, zak (zad og k3 fun q hq e => by have e : q = bz := e; subst e; exact zae og v_bz (by decide) hq) rfl⟩
    rintro ⟨b18, m3, d3, g3⟩ gg3 x4 ⟨kx4, v18, rm3, rc3, rg3⟩
    dsimp only at v18 rm3 rc3 rg3 ⊢
    have kw4 : Kp w x4 n_ := (K6.trans0 hK).trans0 (kx3'.trans0 kx4)
    have a14 := zaf a_b14 (kx3.trans0 kx4)
    have a16 := (v16.keep0 kx4).at
    have a18 := v18.at
    have rm1 := rm1.keep (kx3.trans0 kx4)
    have rc1 := rc1.keep (kx3.trans0 kx4)
    have rg1 := rg1.keep (kx3.trans0 kx4)
    have rm2 := rm2.keep kx4
    have rc2 := rc2.keep kx4
    have rg2 := rg2.keep kx4
    have hmem : ∀ cs a b (n : Int), decide (n ∈ netA cs 1 a b) = has3 (fate cs (1, n)) a b := fun cs a b n => by
      unfold has3
      exact decide_eq_decide.2 zbk
    clear hsb' hsc hmW bkW hHr hrowr a_b8r hrow a_b8 kr
    have q4 : Kp x4 x4 n_ := Kp.refl _ _
    refine KGO ?_
    have ex : ∀ f : Option (Bool × Bool), (has3 f false true = true ∧ has3 f true false = false ∧ has3 f true true = false) ∨ (has3 f false true = false ∧ has3 f true false = true ∧ has3 f true true = false) ∨ (has3 f false true = false ∧ has3 f true false = false ∧ has3 f true true = true) ∨ (has3 f false true = false ∧ has3 f true false = false ∧ has3 f true true = false) := by
      intro f
      rcases f with _ | ⟨_ | _, _ | _⟩ <;> simp [has3]
    refine Loop.intro (ι := Nat) (fun n => [(7, .bool true), (14, .pointer (some ⟨b14, 0, none⟩)), (16, .pointer (some ⟨b16, 0, none⟩)), (18, .pointer (some ⟨b18, 0, none⟩)), (20, .int .i64 ((n + 1 : Nat) : Int))])
      (fun n wr => Kp x4 wr n_ ∧ n ≤ 64) (fun n => 64 - n) 0 ⟨rfl, rfl, rfl, rfl, rfl, trivial⟩ ⟨Kp.refl _ _, Nat.zero_le _⟩ ?_
    rintro n gn y0 ⟨J0, hn⟩
    clear q4
    refine GW ?_
    by_cases hn64 : n < 64
    rotate_left
    · refine KGO ?_
      exact ⟨rfl, kw4.trans0 J0⟩
    have hcn := hch ((n + 1 : Nat) : Int)
    dsimp only at hcn
    have hA := fun a b => hmem (csOf (accs H) p i) a b ((n + 1 : Nat) : Int)
    have hB := fun a b => hmem (csOf (accs H) i ((accs H).length - 1)) a b ((n + 1 : Nat) : Int)
    have hC := fun a b => hmem (csOf (accs H) p ((accs H).length - 1)) a b ((n + 1 : Nat) : Int)
    have exa := ex (fate (csOf (accs H) p i) (1, ((n + 1 : Nat) : Int)))
    have exb := ex (fate (csOf (accs H) i ((accs H).length - 1)) (1, ((n + 1 : Nat) : Int)))
    generalize fate (csOf (accs H) p i) (1, ((n + 1 : Nat) : Int)) = fa at *
    generalize fate (csOf (accs H) i ((accs H).length - 1)) (1, ((n + 1 : Nat) : Int)) = fb at *
    generalize fate (csOf (accs H) p ((accs H).length - 1)) (1, ((n + 1 : Nat) : Int)) = fc at *
    clear ex hmem hch
    rcases exa with ⟨a1, a2, a3⟩ | ⟨a1, a2, a3⟩ | ⟨a1, a2, a3⟩ | ⟨a1, a2, a3⟩ <;> rcases exb with ⟨b1, b2, b3⟩ | ⟨b1, b2, b3⟩ | ⟨b1, b2, b3⟩ | ⟨b1, b2, b3⟩ <;> rw [a1, a2, a3, b1, b2, b3] at hcn <;> obtain ⟨c1, c2, c3⟩ := hcn
    all_goals
      refine KGO ?_
      repeat (first
        | (refine CallS.of (Tryz.call11 _ _) (zaM (w := _) (netA (csOf (accs H) p i) 1 false true) ((n + 1 : Nat) : Int) (rm1.keep J0) (Nat.le_trans (lnet _ _ _ _ _) (by decide))) ?_
           rintro e yy ⟨rfl, kk⟩
           rw [(hA false true).trans a1]
           have J0 : Kp x4 yy n_ := J0.trans0 kk
           clear kk
           refine RT ?_
           refine KGO ?_)
        | (refine CallS.of (Tryz.call11 _ _) (zaM (w := _) (netA (csOf (accs H) p i) 1 true false) ((n + 1 : Nat) : Int) (rg1.keep J0) (Nat.le_trans (lnet _ _ _ _ _) (by decide))) ?_
           rintro e yy ⟨rfl, kk⟩
           rw [(hA true false).trans a2]
           have J0 : Kp x4 yy n_ := J0.trans0 kk
           clear kk
           refine RT ?_
           refine KGO ?_)
        | (refine CallS.of (Tryz.call11 _ _) (zaM (w := _) (netA (csOf (accs H) p i) 1 true true) ((n + 1 : Nat) : Int) (rc1.keep J0) (Nat.le_trans (lnet _ _ _ _ _) (by decide))) ?_
           rintro e yy ⟨rfl, kk⟩
           rw [(hA true true).trans a3]
           have J0 : Kp x4 yy n_ := J0.trans0 kk
           clear kk
           refine RT ?_
           refine KGO ?_)
        | (refine CallS.of (Tryz.call11 _ _) (zaM (w := _) (netA (csOf (accs H) i ((accs H).length - 1)) 1 false true) ((n + 1 : Nat) : Int) (rm2.keep J0) (Nat.le_trans (lnet _ _ _ _ _) (by decide))) ?_
           rintro e yy ⟨rfl, kk⟩
           rw [(hB false true).trans b1]
           have J0 : Kp x4 yy n_ := J0.trans0 kk
           clear kk
           refine RT ?_
           refine KGO ?_)
        | (refine CallS.of (Tryz.call11 _ _) (zaM (w := _) (netA (csOf (accs H) i ((accs H).length - 1)) 1 true false) ((n + 1 : Nat) : Int) (rg2.keep J0) (Nat.le_trans (lnet _ _ _ _ _) (by decide))) ?_
           rintro e yy ⟨rfl, kk⟩
           rw [(hB true false).trans b2]
           have J0 : Kp x4 yy n_ := J0.trans0 kk
           clear kk
           refine RT ?_
           refine KGO ?_)
        | (refine CallS.of (Tryz.call11 _ _) (zaM (w := _) (netA (csOf (accs H) i ((accs H).length - 1)) 1 true true) ((n + 1 : Nat) : Int) (rc2.keep J0) (Nat.le_trans (lnet _ _ _ _ _) (by decide))) ?_
           rintro e yy ⟨rfl, kk⟩
           rw [(hB true true).trans b3]
           have J0 : Kp x4 yy n_ := J0.trans0 kk
           clear kk
           refine RT ?_
           refine KGO ?_)
        | (refine CallS.of (Tryz.call11 _ _) (zaM (w := _) (netA (csOf (accs H) p ((accs H).length - 1)) 1 false true) ((n + 1 : Nat) : Int) (rm3.keep J0) (Nat.le_trans (lnet _ _ _ _ _) (by decide))) ?_
           rintro e yy ⟨rfl, kk⟩
           rw [(hC false true).trans c1.symm]
           have J0 : Kp x4 yy n_ := J0.trans0 kk
           clear kk
           refine RT ?_
           refine KGO ?_)
        | (refine CallS.of (Tryz.call11 _ _) (zaM (w := _) (netA (csOf (accs H) p ((accs H).length - 1)) 1 true false) ((n + 1 : Nat) : Int) (rg3.keep J0) (Nat.le_trans (lnet _ _ _ _ _) (by decide))) ?_
           rintro e yy ⟨rfl, kk⟩
           rw [(hC true false).trans c2.symm]
           have J0 : Kp x4 yy n_ := J0.trans0 kk
           clear kk
           refine RT ?_
           refine KGO ?_)
        | (refine CallS.of (Tryz.call11 _ _) (zaM (w := _) (netA (csOf (accs H) p ((accs H).length - 1)) 1 true true) ((n + 1 : Nat) : Int) (rc3.keep J0) (Nat.le_trans (lnet _ _ _ _ _) (by decide))) ?_
           rintro e yy ⟨rfl, kk⟩
           rw [(hC true true).trans c3.symm]
           have J0 : Kp x4 yy n_ := J0.trans0 kk
           clear kk
           refine RT ?_
           refine KGO ?_))
      exact ⟨n + 1, ⟨rfl, rfl, rfl, rfl, v_int (by simp), trivial⟩, ⟨J0, by omega⟩, by dsimp only; omega⟩
  have kd : Kp wr wr.drew n_ := (Kp.refl wr n_).drew
  have hrowr := zaf hrow hK
  have a_b8r := zaf a_b8 hK
  refine KGO ?_
  refine Draw.heldTail 19 (fun u => Kp wr u n_) (fun _ => true) (by decide +kernel) (by decide +kernel) kd ?_
  refine GW ?_
  refine KGO ?_
  have e1 : (((i + 1 : Nat) : Int) - 1).toNat = i := by omega
  have hA : At wr hg (0 + i * 8) (accCp H[i]) := zbC (enc := accCp) hrowr (fun _ => rfl) (by omega)
  have hB : At wr hg (0 + (i + 1) * 8) (accCp H[i + 1]) := zbC (enc := accCp) hrowr (fun _ => rfl) (by omega)
  rw [e1]
  clear hrowr
  refine KGO ?_
  have gA : GoodP (H[i]).2 := by have := cW.good i (by omega); rwa [hWt i (by omega)] at this
  have gB : GoodP (H[i + 1]).2 := by have := cW.good (i + 1) (by omega); rwa [hWt (i + 1) (by omega)] at this
  have sA := (hH.stab H[i] (List.getElem_mem _)).keep hK.drew
  have sB := (hH.stab H[i + 1] (List.getElem_mem _)).keep hK.drew
  refine CallS.of (Tryz.call14 _ _) (cx_Of (w := wr.drew) sA.read sB.read sA.1 sB.1 gA gB) ?_
  rintro e2 w8 ⟨vc, rfl, oc2, k8⟩
  have J8 : Kp wr w8 n_ := kd.trans0 k8
  have hrowc := zak oc2 rfl
  obtain ⟨ac, cc, rfl⟩ := zac oc2
  have bk8 := bk.keep0 J8
  have hbn := zhv cW hH.zero (by omega) (show i + 1 < (accs H).length by omega)
  have hcs := zfy cW hH.zero (by omega) (show i + 1 < (accs H).length by omega)
  rw [hWt i (by omega), hWt (i + 1) (by omega)] at hbn hcs
  refine RT ?_
  refine ⟨J8, ?_⟩
  refine KGO ?_
  have hs1 := hstl (i + 1) (by omega)
  have hz8 : nbk ≤ w8.heap.size := by have := (hK.trans0 J8).size; omega
  have hcall := zcg (vl := ⟨ac, (chgOf (H[i]).2 (H[i + 1]).2).length, cc⟩) bk8 hz8 (H[i + 1]).2.st (by omega) (by omega) (chgOf (H[i]).2 (H[i + 1]).2) hrowc (by omega)
  rw [hbn] at hcall
  refine CallS.of (Tryz.call13 _ _) hcall ?_
  rintro e3 w9 ⟨rfl, ⟨vb', hsb', bk9⟩, k9⟩
  have hK9 : Kp w6 w9 n_ := (hK.trans0 J8).trans k9 fun q hq e => by
    exfalso
    rcases e with rfl | e
    · omega
    · have := (bk8.own.lt q e).1; omega
  refine RT ?_
  refine KGO ?_
  exact ⟨i + 1, ⟨rfl, rfl, rfl, rfl, rfl, v_int (by simp), trivial⟩, ⟨hK9, by omega, _, _, bk9⟩, by dsimp only; omega⟩
end
section
variable {w : World}
theorem ziQ {v : Value} (l : List Opr) (fr md : Int) (hv : RowOp w v l) (hl : l.length ≤ 1000000000000) (hf : ∀ o ∈ l, FitO o) (hfr : -9223372036854775808 ≤ fr ∧ fr ≤ 9223372036854775807) (hmd : -9223372036854775808 ≤ md ∧ md ≤ 9223372036854775807) (hcp : CapV v) (hE : BEnv w) :
  Calls Tryz.prog 4 #[v, .int .i64 fr, .int .i64 md] w fun e w' => e = .returned (.bool true) ∧ Kp w w' n_ := by
 obtain ⟨lv, h1, ⟨a, cap, rfl, h2⟩, h3⟩ := hv
 cases a with
 | none => exact zhy l fr md ⟨lv, h1, ⟨none, cap, rfl, h2⟩, h3⟩ hl hf hfr hmd hcp (fun a n c e => by injection e with e; exact e.symm) hE
 | some b => exact zhP l fr md ⟨lv, h1, ⟨some b, cap, rfl, h2⟩, h3⟩ hl hf hfr hmd hcp (fun a n c e => by injection e with e; rw [← e]; exact fun h => by cases h) hE
end
end Go.Proofs.YtcplagfblmemhaaGreatDoor
namespace Go.Proofs.YtcplagfblmemhaaGreatDoor
set_option linter.unusedVariables false
set_option maxHeartbeats 16000000
open Go.Shelf Go.RowKit Go.Pw Go.Vc Go.Cs Go.Lib
set_option maxRecDepth 100000
set_option linter.unusedVariables false
theorem znP {P : Program} {w : World} {name : String} {g : Nat} {tS tE : TypeId} {fs : Array Field} {k : IntKind} {zs : List (List Int)} {rest : List (DataW Unit)}
  (h : VarReads P w name (.slice (zs.map fun r => .agg (r.map fun z => .lit (.int k z))) rest)) (hn : P.globalNamed name = some g) (hy : (P.globals[g]?).map (·.type) = some tS)
  (hS : P.underlying tS = some (.slice tE)) (hE : P.underlying tE = some (.struct fs)) (hf : ∀ (i : Nat) (f : Field), fs[i]? = some f → P.underlying f.type = some (.int k) ∧ f.offset = i ∧ P.cellsOf f.type = 1)
  (hc : P.cellsOf tE = fs.size) (h0 : 0 < fs.size) (hz : 0 < zs.length) : ∃ b o c, w.cell? ⟨g, 0, none⟩ = some (.slice (some ⟨b, o, none⟩) zs.length c) ∧ ∀ i, i < zs.length → At w b (o + i * fs.size) ((zs.getD i []).map fun z => Value.int k z) := by
 obtain ⟨g', t, cs, fuel, p, hg, hty, hvar, hd⟩ := h
 obtain rfl := Option.some.inj (hn.symm.trans hg)
 obtain rfl := Option.some.inj (hy.symm.trans hty)
 rcases DataW.trod_slice hS hd with ⟨_, hx⟩ | ⟨a, len, cap, el, rs, m, rfl, hcs, hx, _, hlc, _, hel, helem, hsp, _⟩
 ·cases hx
 have hx1 := congrArg Prod.fst hx
 simp only [DataW.slice.injEq] at hx1
 obtain ⟨eE, eR⟩ := hx1
 have hlen : len = zs.length := by
  have := congrArg List.length eE
  simp at this
  omega
 subst hlen
 have hrange : ∀ i (hi : i < zs.length) j v, (zs[i].map fun z => Value.int k z)[j]? = some v → w.cell? ((a.add (i * fs.size)).add j) = some v := by
  intro i hi j v hv
  have h1 := helem i hi
  rw [hc] at h1
  obtain ⟨b, hb⟩ : ∃ b, el[i]? = some b := ⟨el[i]'(by omega), List.getElem?_eq_getElem (by omega)⟩
  rw [hb] at h1
  obtain ⟨ce, hce, hte⟩ := Option.bind_eq_some_iff.1 h1
  have hb1 : b.1 = .agg (zs[i].map fun z => .lit (.int k z)) := by
   have := congrArg (·[i]?) eE
   simpa [hb, hi] using this.symm
  have hcs := ints_of_struct (p := b.2) hE hf hc (by rw [← hb1]; exact hte)
  obtain ⟨_, hl, hcc⟩ := World.cells?_some hce
  have hj : j < fs.size := by
   have := (List.getElem?_eq_some_iff.1 hv).1
   rw [← hcs, hl] at this
   exact this
  rw [hcc j hj, hcs, hv]
 obtain ⟨R, oR, sR⟩ := a
 obtain rfl : sR = none := by
  have hl0 : 0 < (zs[0].map fun z => Value.int k z).length := by
   have h1 := helem 0 hz
   rw [hc] at h1
   obtain ⟨b, hb⟩ : ∃ b, el[0]? = some b := ⟨el[0]'(by omega), List.getElem?_eq_getElem (by omega)⟩
   rw [hb] at h1
   obtain ⟨ce, hce, hte⟩ := Option.bind_eq_some_iff.1 h1
   have hb1 : b.1 = .agg (zs[0].map fun z => .lit (.int k z)) := by
    have := congrArg (·[0]?) eE
    simpa [hb, hz] using this.symm
   have hcs := ints_of_struct (p := b.2) hE hf hc (by rw [← hb1]; exact hte)
   obtain ⟨_, hl, _⟩ := World.cells?_some hce
   rw [← hcs, hl]; exact h0
  have h00 := hrange 0 hz 0 _ (List.getElem?_eq_getElem hl0)
  have : (Addr.add (Addr.add ⟨R, oR, sR⟩ (0 * fs.size)) 0) = ⟨R, oR, sR⟩ := by simp [Addr.add]
  rw [this] at h00
  exact cell_spot h00
 refine ⟨R, oR, cap, ?_, fun i hi j v hj => ?_⟩
 ·rw [World.var?_cell hg hvar 0, ← Array.getElem?_toList, hcs]
  rfl
 ·rw [List.getD_eq_getElem?_getD, List.getElem?_eq_getElem hi, Option.getD_some] at hj
  have := hrange i hi j v hj
  rw [Addr.add_lit, Addr.add_lit] at this
  exact this
def foldZ : List (List Int) := foldT.map fun x => [x.1, x.2.1, x.2.2.1, x.2.2.2]
theorem zmz : (Rows.laid_pouch_fold_spans : DataW Unit) = .slice (foldZ.map fun r => .agg (r.map fun z => .lit (.int .i32 z))) [] := by kernel_rfl
theorem zjX {W : World} (h : VarReads Tryz.prog W "pouch/fold.spans" Rows.laid_pouch_fold_spans) : FoldTab W := by
 rw [zmz] at h
 obtain ⟨b, o, c, h1, h2⟩ := znP h (by kernel_rfl) (by kernel_rfl) Tryz.underlying243 Tryz.underlying245 (fun j f hj => by
   match j, hj with
   | 0, hj => simp at hj; subst hj; exact ⟨Tryz.underlying21, rfl, by kernel_rfl⟩
   | 1, hj => simp at hj; subst hj; exact ⟨Tryz.underlying21, rfl, by kernel_rfl⟩
   | 2, hj => simp at hj; subst hj; exact ⟨Tryz.underlying21, rfl, by kernel_rfl⟩
   | 3, hj => simp at hj; subst hj; exact ⟨Tryz.underlying21, rfl, by kernel_rfl⟩
   | j + 4, hj => simp at hj) (by kernel_rfl) (by decide) (by decide)
 refine ⟨b, o, c, h1, fun i hi => ?_⟩
 have := h2 i hi
 have e : (foldZ.getD i []).map (fun z => Value.int .i32 z) = spF (foldSp i) := by
  have : ∀ i : Fin 17, (foldZ.getD i.val []) = [(foldSp i.val).1, (foldSp i.val).2.1, (foldSp i.val).2.2.1, (foldSp i.val).2.2.2] := by decide
  have := this ⟨i, hi⟩
  rw [show foldZ.getD i [] = _ from this]; rfl
 rw [e] at this
 exact this
theorem zmd {P : Program} {w : World} {name : String} {g : Nat} {tS tE : TypeId} {zs : List (List UInt8)} {rest : List (DataW Unit)}
  (h : VarReads P w name (.slice (zs.map fun z => .lit (.string z)) rest)) (hn : P.globalNamed name = some g) (hy : (P.globals[g]?).map (·.type) = some tS)
  (hS : P.underlying tS = some (.slice tE)) (hE : P.underlying tE = some .string)
  (hc : P.cellsOf tE = 1) (hz : 0 < zs.length) : ∃ b o c, w.cell? ⟨g, 0, none⟩ = some (.slice (some ⟨b, o, none⟩) zs.length c) ∧ b < w.heap.size ∧ At w b o (zs.map sv) := by
 obtain ⟨g', t, cs, fuel, p, hg, hty, hvar, hd⟩ := h
 obtain rfl := Option.some.inj (hn.symm.trans hg)
 obtain rfl := Option.some.inj (hy.symm.trans hty)
 rcases DataW.trod_slice hS hd with ⟨_, hx⟩ | ⟨a, len, cap, el, rs, m, rfl, hcs, hx, _, hlc, _, hel, helem, hsp, _⟩
 ·cases hx
 have hx1 := congrArg Prod.fst hx
 simp only [DataW.slice.injEq] at hx1
 obtain ⟨eE, eR⟩ := hx1
 have hlen : len = zs.length := by
  have := congrArg List.length eE
  simp at this
  omega
 subst hlen
 have hrange : ∀ i (hi : i < zs.length), w.cell? (a.add i) = some (sv zs[i]) := by
  intro i hi
  have h1 := helem i hi
  rw [hc, Nat.mul_one] at h1
  obtain ⟨b, hb⟩ : ∃ b, el[i]? = some b := ⟨el[i]'(by omega), List.getElem?_eq_getElem (by omega)⟩
  rw [hb] at h1
  obtain ⟨ce, hce, hte⟩ := Option.bind_eq_some_iff.1 h1
  have hb1 : b.1 = .lit (.string zs[i]) := by
   have := congrArg (·[i]?) eE
   simpa [hb, hi] using this.symm
  obtain ⟨s, e, gg, _⟩ := DataW.trod_string hE hte
  have hs : s.data.toList = zs[i] := by
   have := congrArg Prod.fst gg
   rw [hb1] at this
   first | (simpa using this.symm) | (simpa using this)
  obtain ⟨_, hl, hcc⟩ := World.cells?_some hce
  have := hcc 0 (by omega)
  rw [e] at this
  have e0 : (a.add i).add 0 = a.add i := by simp [Addr.add]
  rw [e0] at this
  rw [this, ← hs]; rfl
 obtain ⟨R, oR, sR⟩ := a
 obtain rfl : sR = none := by
  have h00 := hrange 0 hz
  have : (Addr.add ⟨R, oR, sR⟩ 0) = ⟨R, oR, sR⟩ := by simp [Addr.add]
  rw [this] at h00
  exact cell_spot h00
 refine ⟨R, oR, cap, ?_, ?_, fun i v hi => ?_⟩
 ·rw [World.var?_cell hg hvar 0, ← Array.getElem?_toList, hcs]
  rfl
 ·exact cell_lt (hrange 0 hz)
 ·rw [List.getElem?_map] at hi
  obtain ⟨x, hx, rfl⟩ := Option.map_eq_some_iff.1 hi
  obtain ⟨hi2, rfl⟩ := List.getElem?_eq_some_iff.1 hx
  have := hrange i hi2
  rw [Addr.add_lit] at this
  exact this
theorem zkf : (Rows.laid_pouch_box_roles : DataW Unit) = .slice (rolesL.map fun z => .lit (.string z)) [] := by kernel_rfl
theorem zii {W : World} (h : VarReads Tryz.prog W "pouch/box.roles" Rows.laid_pouch_box_roles) : RolesTab W := by
 rw [zkf] at h
 exact zmd h (by kernel_rfl) (by kernel_rfl) Tryz.underlying58 Tryz.underlying9 (by kernel_rfl) (by decide)
end Go.Proofs.YtcplagfblmemhaaGreatDoor
