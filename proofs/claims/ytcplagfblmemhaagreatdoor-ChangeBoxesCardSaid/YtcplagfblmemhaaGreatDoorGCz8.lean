/- Helper text of this claim: lemmas and contracts that the proved statement rests on; no conditions of its own. -/
import Derived.Test.YtcplagfblmemhaaGreatDoorRows
import Derived.Lib.LaidU8
import Derived.PinnedBridge
import Derived.Lib.LaidU8T
import Derived.Test.YtcplagfblmemhaaGreatDoorCz7
namespace Go.Proofs.YtcplagfblmemhaaGreatDoor
set_option linter.unusedVariables false
set_option maxHeartbeats 16000000
open Go.Shelf Go.RowKit Go.Pw Go.Vc Go.Cs Go.Lib Go.Cd Go.Cx
set_option linter.unusedVariables false
set_option maxRecDepth 100000
theorem zbb {w w' : World} {v : Value} {l : List Opr} (h : RowOp w v l) (k : Kp w w' n_) : RowOp w' v l :=
 let ⟨lv, h1, h2, h3⟩ := h
 ⟨lv, h1, h2.keep k, fun p hp => (h3 p hp).keep k⟩
theorem zbN {kept : Int} {W : List Acc} (c : ChainW W) (h0 : (W.getD 0 default).mails = []) (hl : W.length ≤ 41) : ∀ l ∈ (bookA kept W).notes, l.length ≤ 1000 := by
 intro l hm
 rw [zaK c.ne] at h0
 have h1 : l ∈ notesOf W := List.mem_of_mem_drop hm
 obtain ⟨t, ht, rfl⟩ := List.getElem_of_mem h1
 rw [zdY ht]
 rw [zaX] at ht
 have m1 := zbw c h0 t (by omega)
 have m2 := zbw c h0 (t + 1) (by omega)
 have b1 := (c.good t (by omega)).bx.len
 have b2 := (c.good (t + 1) (by omega)).bx.len
 have := @ziH (W[t]'(by omega)) (W[t + 1]'(by omega))
 omega
theorem zjB {α : Type} (b : Nat) : ∀ L : List (List α), (∀ l ∈ L, l.length ≤ b) → L.flatten.length ≤ L.length * b
 | [], _ => by simp
 | x :: L, h => by
  have h1 := h x List.mem_cons_self
  have h2 := zjB b L fun l hl => h l (List.mem_cons_of_mem _ hl)
  rw [List.flatten_cons, List.length_append, List.length_cons, Nat.succ_mul]
  omega
theorem ziP {W : List Acc} (c : ChainW W) (h0 : (W.getD 0 default).mails = []) (hl : W.length ≤ 41) (i j : Nat) (of : Int) (a b : Bool) : (netA (csOf W i j) of a b).length ≤ 41000 := by
 have hn : ∀ l ∈ notesOf W, l.length ≤ 1000 := fun l h => zbN (kept := 41) c h0 hl l (by
  have hlen := zaX W
  unfold bookA
  dsimp only
  rw [show min (notesOf W).length (Int.toNat 41) = (notesOf W).length from Nat.min_eq_left (by rw [hlen]; show W.length - 1 ≤ 41; omega), Nat.sub_self, List.drop_zero]; exact h)
 have h1 : (netA (csOf W i j) of a b).length ≤ (idsA (csOf W i j) of).length := List.length_filter_le _ _
 have h2 := zpi of (csOf W i j)
 have h3 : (csOf W i j).length ≤ ((((notesOf W).take j).drop i).length) * 1000 := zjB 1000 _ fun l h => hn l (List.mem_of_mem_take (List.mem_of_mem_drop h))
 have h4 : (((notesOf W).take j).drop i).length ≤ 41 := by rw [List.length_drop, List.length_take, zaX]; omega
 have h5 := Nat.mul_le_mul_right 1000 h4
 omega
structure Pick (w : World) (nb p L : Nat) (kept : Int) (oh nh : Hd) (O N : Acc) (net : Int → Bool → Bool → List Int) : Prop where
 so : StabA w oh O
 sn : StabA w nh N
 go : GoodP O
 gn : GoodP N
 book : ∃ B vb hsb k, BkAt w B nb vb hsb k ∧ (∀ l ∈ k.notes, l.length ≤ 1000) ∧ ∀ of, 1 ≤ of → of ≤ 3 → sinceA k O.st of = if kept < ((L - 1 - p : Nat) : Int) then (⟨[], [], [], 0⟩, 18) else (⟨net of false true, net of true true, net of true false, N.st⟩, 0)
 fol : FollowsP O N (net 1 false true) (net 1 true true) (net 1 true false)
 box : BoxesP O N (net 2 false true) (net 2 true true) (net 2 true false) (net 3 false true) (net 3 true true) (net 3 true false)
 len : ∀ of a b, (net of a b).length ≤ 41000
theorem HistAt.pick {w : World} {B nb p : Nat} {s : Sl} {kept : Int} {H : List (Hd × Acc)} (h : HistAt w B B s nb kept H) (hk : 1 ≤ kept) (hl : H.length ≤ 41) (hp : p < H.length) :
  ∃ net, Pick w nb p H.length kept (H[p]).1 (H[H.length - 1]'(by omega)).1 (H[p]).2 (H[H.length - 1]'(by omega)).2 net := by
 have cW := h.chain
 have zW := h.zero
 have hWl : (accs H).length = H.length := List.length_map _
 have hWO : (accs H)[p]'(by omega) = H[p].2 := List.getElem_map _
 have hWN : (accs H)[(accs H).length - 1]'(by omega) = (H[H.length - 1]'(by omega)).2 := by simp only [hWl, List.getElem_map]
 have gO := cW.good p (by omega)
 have gN := cW.good ((accs H).length - 1) (by omega)
 obtain ⟨vb, hsb, bk⟩ := h.book
 have hbs := fun of (h1 : (1 : Int) ≤ of) (h3 : of ≤ 3) => zgi (kept := kept) cW hk (show p < (accs H).length by omega) h1 h3
 have hfw := follows cW (show p < (accs H).length by omega)
 have hbx := zmZ cW (show p < (accs H).length by omega)
 rw [hWO] at gO hfw hbx
 rw [hWN] at gN hfw hbx
 refine ⟨netA (csOf (accs H) p ((accs H).length - 1)), h.stab _ (List.getElem_mem _), h.stab _ (List.getElem_mem _), gO, gN, ⟨B, vb, hsb, _, bk, zbN cW zW (by omega), fun of h1 h3 => ?_⟩, hfw, hbx, fun of a b => ziP cW zW (by omega) _ _ _ _ _⟩
 have := hbs of h1 h3
 rw [hWO, hWN, hWl] at this
 rw [hWl]
 exact this
theorem Pick.keep0 {w w' : World} {nb p L : Nat} {kept : Int} {oh nh : Hd} {O N : Acc} {net : Int → Bool → Bool → List Int} (h : Pick w nb p L kept oh nh O N net) (k : Kp w w' n_) : Pick w' nb p L kept oh nh O N net :=
 ⟨h.so.keep k, h.sn.keep k, h.go, h.gn, let ⟨B, vb, hsb, kk, a, b, c⟩ := h.book; ⟨B, vb, hsb, kk, a.keep0 k, b, c⟩, h.fol, h.box, h.len⟩
section
variable {w : World}
theorem zku {v : Value} (l : List Opr) (kept at_ : Int) (hv : RowOp w v l) (hl : l.length ≤ 1000000000000) (hf : ∀ o ∈ l, FitO o) (hat : -9223372036854775808 ≤ at_ ∧ at_ ≤ 9223372036854775807) (hE : BEnv w) :
  Calls Tryz.prog 5 #[v, .int .i64 kept, .int .i64 at_] w fun e w' => e = .returned (.bool true) ∧ Kp w w' n_ := by
 obtain ⟨hat1, hat2⟩ := hat
 have hv0 := hv
 obtain ⟨lv, hlv, hr, hop⟩ := hv
 have hlen : lv.length = l.length := by rw [← hlv, List.length_map]
 obtain ⟨a, cap, rfl, hr⟩ := hr
 refine zab (args := [.slice a lv.length cap, .int .i64 kept, .int .i64 at_]) Tryz.func5 rfl NL ?_; refine GW ?_
 refine CallS.of (Tryz.call6 _ _) (zde (w := w)) ?_
 rintro e w1 ⟨rfl, k1⟩
 refine RT ?_
 refine KGO ?_
 refine CallS.of (Tryz.call7 _ _) (zed (w := w1) l (zbb hv0 k1) hl) ?_
 rintro e w2 ⟨⟨q, rfl, hq⟩, k2⟩
 have K2 := k1.trans0 k2
 refine RT ?_
 cases q with
 | false =>
  refine KGO ?_
  exact ⟨rfl, K2⟩
 | true =>
 have h40 : l.length ≤ 40 := hq rfl
 clear hq
 by_cases c1 : kept < 1
 ·refine KGO ?_
  exact ⟨rfl, K2⟩
 by_cases c2 : 256 < kept
 ·refine KGO ?_
  exact ⟨rfl, K2⟩
 refine KGO ?_
 refine CallS.of (Tryz.call8 _ _) (zcY (w := w2) l kept (zbb hv0 K2) h40 hf (by omega) (by omega) (hE.keep K2)) ?_
 rintro e w3 ⟨s, nb, H, rfl, hH, hacc, hnb1, hnb2, hHl, k3⟩
 have K3 := K2.trans0 k3
 have hH0 : 0 < H.length := by have := hH.chain.ne; rwa [List.length_map] at this
 clear hr hop hv0
 obtain ⟨sa, sn, sc⟩ := s
 obtain rfl : sn = H.length := zbj hH.own
 clear hacc
 refine RT ?_
 refine KGO ?_
 refine Store.fresh (vs := [.slice sa H.length sc, .pointer (some ⟨nb, 0, none⟩)]) (by rfl) rfl (zam (by rfl)) ?_
 obtain ⟨a_b8, k_w4, z_w4⟩ := new3 w3 28 ([.slice sa H.length sc, .pointer (some ⟨nb, 0, none⟩)])
 generalize w3.alloc (.cells (List.toArray ([.slice sa H.length sc, .pointer (some ⟨nb, 0, none⟩)])) 28) = w4 at *
 generalize hs_b8 : w3.heap.size = b8 at *
 have hH := hH.keep0 k_w4
 have K4 := K3.trans0 k_w4
 refine KGO ?_
 by_cases c3 : at_ < 0
 ·refine KGO ?_
  exact ⟨rfl, K4⟩
 obtain ⟨p, rfl⟩ := Int.eq_ofNat_of_zero_le (show 0 ≤ at_ by omega)
 by_cases c4 : H.length ≤ p
 ·refine KGO ?_
  exact ⟨rfl, K4⟩
 obtain ⟨hg, rfl, hgB, hgl, hrow⟩ := zcg hH.own hH0
 have hold : At w4 hg (0 + p * 8) (accCp H[p]) := zbm (enc := accCp) hrow (fun _ => rfl) (by omega)
 have hnow : At w4 hg (0 + (H.length - 1) * 8) (accCp H[H.length - 1]) := zbm (enc := accCp) hrow (fun _ => rfl) (by omega)
 have kr4 := Kp.refl w4 n_
 clear hrow
 obtain ⟨net, hP⟩ := hH.pick (by omega) hHl (show p < H.length by omega)
 generalize H[H.length - 1] = N at *
 generalize H[p] = O at *
 obtain ⟨oh, O⟩ := O
 obtain ⟨nh, N⟩ := N
 dsimp only [accCp] at hP hold hnow
 refine KGO ?_
 refine Store.fresh (vs := accC oh O) (by rfl) rfl (zam (by rfl)) ?_
 obtain ⟨a_b10, k_w5, z_w5⟩ := new3 w4 36 (accC oh O)
 generalize w4.alloc (.cells (List.toArray (accC oh O)) 36) = w5 at *
 generalize hs_b10 : w4.heap.size = b10 at *
 have hnow := zad hnow k_w5
 refine KGO ?_
 have e1 : ((H.length : Int) - 1).toNat = H.length - 1 := by omega
 rw [e1]
 refine KGO ?_
 refine Store.fresh (vs := accC nh N) (by rfl) rfl (zam (by rfl)) ?_
 obtain ⟨a_b11, k_w6, z_w6⟩ := new3 w5 36 (accC nh N)
 generalize w5.alloc (.cells (List.toArray (accC nh N)) 36) = w6 at *
 generalize hs_b11 : w5.heap.size = b11 at *
 have K6 := (K4.trans0 k_w5).trans0 k_w6
 have hP := hP.keep0 (k_w5.trans0 k_w6)
 have a_b8 := zad a_b8 (k_w5.trans0 k_w6)
 have a_b10 := zad a_b10 k_w6
 have zh := hH.own.lt
 clear hold hnow hH e1 kr4
 have gO := hP.go
 have hOst := gO.top
 have hO0 := gO.st
 unfold M40 at hOst
 refine KGO ?_
 obtain ⟨B, vb, hsb, bkk, bk, hsm, hsi⟩ := hP.book
 refine CallS.of (Tryz.call9 _ _) (zaJ (w := w6) bk hsm O.st 1 (by omega)) ?_
 rintro e w7 ⟨⟨m, c, g, rfl, om, oc, og⟩, k7⟩
 have hse := hsi 1 (by decide) (by decide)
 have K7 := K6.trans0 k7
 have hP := hP.keep0 k7
 have a_b8 := zad a_b8 k7
 have a_b10 := zad a_b10 k7
 have a_b11 := zad a_b11 k7
 clear bk hsm hsi gO
 by_cases c5 : kept < ((H.length - 1 - p : Nat) : Int)
 ·rw [if_pos c5] at hse
  rw [hse]
  dsimp only
  refine RT ?_
  refine KGO ?_
  refine Store.fresh (vs := [m.v, c.v, g.v, .int .i64 0]) (by rfl) rfl (zam (by rfl)) ?_
  obtain ⟨a_b12, k_w8, z_w8⟩ := new3 w7 39 ([m.v, c.v, g.v, .int .i64 0])
  generalize w7.alloc (.cells (List.toArray ([m.v, c.v, g.v, .int .i64 0])) 39) = w8 at *
  generalize hs_b12 : w7.heap.size = b12 at *
  have a_b8 := zad a_b8 k_w8
  refine KGO ?_
  exact ⟨rfl, K7.trans0 k_w8⟩
 rw [if_neg c5] at hse
 have c5' : ¬ ((H.length : Int) - 1 - p > kept) := by omega
 rw [hse] at om oc og ⊢
 dsimp only at om oc og ⊢
 have rm := zak om rfl
 have rc := zak oc rfl
 have rg := zak og rfl
 have om' := zbj om
 have oc' := zbj oc
 have og' := zbj og
 have lM := hP.len 1 false true
 have lC := hP.len 1 true true
 have lG := hP.len 1 true false
 obtain ⟨ma, mn, mc⟩ := m
 obtain ⟨ca, cn, cc⟩ := c
 obtain ⟨ga, gn, gc⟩ := g
 dsimp only at om' oc' og'
 have hfol := hP.fol
 have stN := hP.sn
 have stO := hP.so
 have gN := hP.gn
 have gO := hP.go
 clear om oc og
 generalize net 1 false true = M at *
 generalize net 1 true true = C at *
 generalize net 1 true false = G at *
 subst om' oc' og'
 refine RT ?_
 refine KGO ?_
 refine Store.fresh (vs := [.slice ma M.length mc, .slice ca C.length cc, .slice ga G.length gc, .int .i64 N.st]) (by rfl) rfl (zam (by rfl)) ?_
 obtain ⟨a_b12, k_w8, z_w8⟩ := new3 w7 39 ([.slice ma M.length mc, .slice ca C.length cc, .slice ga G.length gc, .int .i64 N.st])
 generalize w7.alloc (.cells (List.toArray ([.slice ma M.length mc, .slice ca C.length cc, .slice ga G.length gc, .int .i64 N.st])) 39) = w8 at *
 generalize hs_b12 : w7.heap.size = b12 at *
 have K8 := K7.trans0 k_w8
 have a_b8 := zad a_b8 k_w8
 have a_b10 := zad a_b10 k_w8
 have a_b11 := zad a_b11 k_w8
 have rm := rm.keep k_w8
 have rc := rc.keep k_w8
 have rg := rg.keep k_w8
 have stN := stN.keep k_w8
 have stO := stO.keep k_w8
 clear hP hse hH hnow zh c5
 obtain ⟨lx, hlx, ⟨xa, xc, hxe, hxr⟩, hxo⟩ := stN.read.m
 obtain ⟨lo, hlo, ⟨oa, oc, hoe, _⟩, _⟩ := stO.read.m
 have hrn : nh.M.n = lx.length := by injection hxe
 have hra : nh.M.a = xa := by injection hxe
 have hrn' : oh.M.n = lo.length := by injection hoe
 have hlN : lx.length = N.mails.length := by rw [← hlx, List.length_map]
 have hlO : lo.length = O.mails.length := by rw [← hlo, List.length_map]
 have fO := fitZ gO
 have fN := fitZ gN
 have fml : O.mails.length ≤ 100000 := by have := fO.ml; omega
 have fmb : ∀ m ∈ O.mails, m.boxes.length ≤ 1000000 ∧ m.flags.length ≤ 1000000 := fun m hm => by have := fO.mb m hm; omega
 have fNb : ∀ m ∈ N.mails, m.boxes.length ≤ 1000000 ∧ m.flags.length ≤ 1000000 := fun m hm => by have := fN.mb m hm; omega
 have nml : N.mails.length ≤ 100000 := by have := fN.ml; omega
 have a_b11' := a_b11
 have a_b10' := a_b10
 unfold accC at a_b11' a_b10'
 rw [hrn, hra] at a_b11'
 rw [hrn'] at a_b10'
 have kr8 := Kp.refl w8 n_
 have hcl : ∀ i, ((N.mails.take i).filter fun m => (findA O.mails m.id).isSome).length ≤ 100000 := fun i => Nat.le_trans (List.length_filter_le _ _) (by rw [List.length_take]; omega)
 refine KGO ?_
 refine Loop.intro (ι := Nat) (fun i => [(7, .bool true), (8, .pointer (some ⟨b8, 0, none⟩)), (10, .pointer (some ⟨b10, 0, none⟩)), (11, .pointer (some ⟨b11, 0, none⟩)), (12, .pointer (some ⟨b12, 0, none⟩)), (14, .int .i64 (((N.mails.take i).filter fun m => (findA O.mails m.id).isSome).length : Nat)), (15, .int .i64 (i : Nat))])
  (fun i wr => Kp w8 wr n_ ∧ i ≤ lx.length) (fun i => lx.length - i) 0 ⟨rfl, rfl, rfl, rfl, rfl, rfl, rfl, trivial⟩ ⟨Kp.refl _ _, Nat.zero_le _⟩ ?_
 rintro i gg wr ⟨hK, hi⟩
 have kr := Kp.refl wr n_
 have hci := hcl i
 clear a_b11
 refine GW ?_
 by_cases hlt : i < lx.length
 rotate_left
 ·have hi2 : i = N.mails.length := by omega
  subst hi2
  rw [List.take_length] at hci ⊢
  have h1 := hfol.cOld
  have h2 := hfol.cNow
  generalize (N.mails.filter fun m => (findA O.mails m.id).isSome).length = cnt at *
  clear hxr
  refine KGO ?_
  exact ⟨zah (beq_iff_eq.2 (by omega)), K8.trans0 hK⟩
 obtain ⟨gb, o, rfl, hgb, hat⟩ := hxr (by omega)
 clear hxr a_b10'
 have hmm : lx[i].m ∈ N.mails := by rw [← hlx]; exact List.mem_map_of_mem (List.getElem_mem hlt)
 have hmi : N.mails[i]'(by omega) = lx[i].m := by simp only [← hlx, List.getElem_map]
 have hxo1 := hxo lx[i] (List.getElem_mem hlt)
 have hxb := fNb _ hmm
 have f1 := hfol.made _ hmm
 have f2 := hfol.gone _ hmm
 have f3 := hfol.had _ hmm
 have f4 := hfol.same _ hmm
 have f5 := hfol.diff _ hmm
 have hcs : ((N.mails.take (i + 1)).filter fun m => (findA O.mails m.id).isSome).length = ((N.mails.take i).filter fun m => (findA O.mails m.id).isSome).length + (if (findA O.mails lx[i].m.id).isSome then 1 else 0) := by
  rw [List.take_succ_eq_append_getElem (by omega), List.filter_append, List.length_append, hmi, List.filter_cons]
  split <;> rfl
 clear c1 c2 c3 c4 hat1 hat2 hl hHl h40 hfol 
 refine KGO ?_
 refine Store.fresh (vs := mrC lx[i]) (by rfl) rfl (zam (by rfl)) ?_
 obtain ⟨a_b16, k_w9, z_w9⟩ := new3 wr 60 (mrC lx[i])
 generalize wr.alloc (.cells (List.toArray (mrC lx[i])) 60) = w9 at *
 generalize hs_b16 : wr.heap.size = b16 at *
 have J9 : Kp w8 w9 n_ := hK.trans0 k_w9
 refine KGO ?_
 refine CallS.of (Tryz.call15 _ _) (zqx (w := w9) lx[i].m.id (stO.keep J9).read fml fmb) ?_
 rintro e w10 ⟨y, rfl, hy, hyo, k10⟩
 have J10 := J9.trans0 k10
 have a_b16 := zad a_b16 k10
 have hfe : findL O.mails lx[i].m.id = findA O.mails lx[i].m.id := rfl
 rw [hfe] at hy ⊢
 have hM : decide (lx[i].m.id ∈ M) = !(findA O.mails lx[i].m.id).isSome := by
  cases h : findA O.mails lx[i].m.id with
  | none => exact decide_eq_true (f1.2 h)
  | some z => exact decide_eq_false fun hh => by rw [f1.1 hh] at h; cases h
 have hG : decide (lx[i].m.id ∈ G) = false := decide_eq_false f2
 refine RT ?_
 refine KGO ?_
 refine Store.fresh (vs := mrC y) (by rfl) rfl (zam (by rfl)) ?_
 obtain ⟨a_b17, k_w11, z_w11⟩ := new3 w10 60 (mrC y)
 generalize w10.alloc (.cells (List.toArray (mrC y)) 60) = w11 at *
 generalize hs_b17 : w10.heap.size = b17 at *
 have J11 : Kp w8 w11 n_ := J10.trans0 k_w11
 have a_b16 := zad a_b16 k_w11
 clear kr hK hat
 have hyo := hyo.keep k_w11
 clear hfe
 generalize hfg : findA O.mails lx[i].m.id = fd at *
 cases fd with
 | none =>
  have hC : decide (lx[i].m.id ∈ C) = false := decide_eq_false fun h => f3 h rfl
  refine KGO ?_
  refine CallS.of (Tryz.call11 _ _) (zaa (w := w11) M lx[i].m.id ((rm).keep J11) (by omega)) ?_
  rintro e w12 ⟨rfl, kk⟩
  rw [hM]
  have J12 : Kp w8 w12 n_ := (J11).trans0 kk
  have a_b16 := zad a_b16 kk
  have a_b17 := zad a_b17 kk
  have hyo := hyo.keep kk
  have kr := Kp.refl w12 n_
  clear kk
  refine RT ?_
  refine KGO ?_
  refine CallS.of (Tryz.call11 _ _) (zaa (w := w12) G lx[i].m.id ((rg).keep J12) (by omega)) ?_
  rintro e w13 ⟨rfl, kk⟩
  rw [hG]
  have J13 : Kp w8 w13 n_ := (J12).trans0 kk
  have a_b16 := zad a_b16 kk
  have a_b17 := zad a_b17 kk
  have hyo := hyo.keep kk
  have kr := Kp.refl w13 n_
  clear kk
  refine RT ?_
  refine KGO ?_
  refine CallS.of (Tryz.call11 _ _) (zaa (w := w13) C lx[i].m.id ((rc).keep J13) (by omega)) ?_
  rintro e w14 ⟨rfl, kk⟩
  rw [hC]
  have J14 : Kp w8 w14 n_ := (J13).trans0 kk
  have a_b16 := zad a_b16 kk
  have a_b17 := zad a_b17 kk
  have hyo := hyo.keep kk
  have kr := Kp.refl w14 n_
  clear kk
  refine RT ?_
  refine KGO ?_
  refine CallS.of (Tryz.call11 _ _) (zaa (w := w14) C lx[i].m.id ((rc).keep J14) (by omega)) ?_
  rintro e w15 ⟨rfl, kk⟩
  rw [hC]
  have J15 : Kp w8 w15 n_ := (J14).trans0 kk
  have a_b16 := zad a_b16 kk
  have a_b17 := zad a_b17 kk
  have hyo := hyo.keep kk
  have kr := Kp.refl w15 n_
  clear kk
  refine RT ?_
  refine KGO ?_
  exact ⟨i + 1, ⟨rfl, rfl, rfl, rfl, rfl, v_int (by rw [hcs]; simp), v_int (by simp), trivial⟩, ⟨J15, by omega⟩, by dsimp only; omega⟩
 | some z =>
  have hy : y.m = z := hy
  by_cases hcm : lx[i].m.id ∈ C
  ·have hC : decide (lx[i].m.id ∈ C) = true := decide_eq_true hcm
   have hmod := f5 hcm z rfl
   rw [← hy] at hmod
   refine KGO ?_
   refine CallS.of (Tryz.call11 _ _) (zaa (w := w11) M lx[i].m.id ((rm).keep J11) (by omega)) ?_
   rintro e w12 ⟨rfl, kk⟩
   rw [hM]
   have J12 : Kp w8 w12 n_ := (J11).trans0 kk
   have a_b16 := zad a_b16 kk
   have a_b17 := zad a_b17 kk
   have hyo := hyo.keep kk
   have kr := Kp.refl w12 n_
   clear kk
   refine RT ?_
   refine KGO ?_
   refine CallS.of (Tryz.call11 _ _) (zaa (w := w12) G lx[i].m.id ((rg).keep J12) (by omega)) ?_
   rintro e w13 ⟨rfl, kk⟩
   rw [hG]
   have J13 : Kp w8 w13 n_ := (J12).trans0 kk
   have a_b16 := zad a_b16 kk
   have a_b17 := zad a_b17 kk
   have hyo := hyo.keep kk
   have kr := Kp.refl w13 n_
   clear kk
   refine RT ?_
   refine KGO ?_
   refine CallS.of (Tryz.call11 _ _) (zaa (w := w13) C lx[i].m.id ((rc).keep J13) (by omega)) ?_
   rintro e w14 ⟨rfl, kk⟩
   rw [hC]
   have J14 : Kp w8 w14 n_ := (J13).trans0 kk
   have a_b16 := zad a_b16 kk
   have a_b17 := zad a_b17 kk
   have hyo := hyo.keep kk
   have kr := Kp.refl w14 n_
   clear kk
   refine RT ?_
   refine KGO ?_
   refine CallS.of (Tryz.call11 _ _) (zaa (w := w14) C lx[i].m.id ((rc).keep J14) (by omega)) ?_
   rintro e w15 ⟨rfl, kk⟩
   rw [hC]
   have J15 : Kp w8 w15 n_ := (J14).trans0 kk
   have a_b16 := zad a_b16 kk
   have a_b17 := zad a_b17 kk
   have hyo := hyo.keep kk
   have kr := Kp.refl w15 n_
   clear kk
   refine RT ?_
   refine KGO ?_
   refine CallS.of (Tryz.call11 _ _) (zaa (w := w15) C lx[i].m.id ((rc).keep J15) (by omega)) ?_
   rintro e w16 ⟨rfl, kk⟩
   rw [hC]
   have J16 : Kp w8 w16 n_ := (J15).trans0 kk
   have a_b16 := zad a_b16 kk
   have a_b17 := zad a_b17 kk
   have hyo := hyo.keep kk
   have kr := Kp.refl w16 n_
   clear kk
   refine RT ?_
   refine KGO ?_
   exact ⟨i + 1, ⟨rfl, rfl, rfl, rfl, rfl, v_int (by rw [hcs]; simp), v_int (by simp), trivial⟩, ⟨J16, by omega⟩, by dsimp only; omega⟩
  ·have hC : decide (lx[i].m.id ∈ C) = false := decide_eq_false hcm
   have hz : y.m = lx[i].m := hy.trans (f4 hcm z rfl)
   have hmod : y.m.mod = lx[i].m.mod := by rw [hz]
   have hyb : y.m.boxes.length ≤ 1000000 ∧ y.m.flags.length ≤ 1000000 := by rw [hz]; exact hxb
   refine KGO ?_
   refine CallS.of (Tryz.call11 _ _) (zaa (w := w11) M lx[i].m.id ((rm).keep J11) (by omega)) ?_
   rintro e w12 ⟨rfl, kk⟩
   rw [hM]
   have J12 : Kp w8 w12 n_ := (J11).trans0 kk
   have a_b16 := zad a_b16 kk
   have a_b17 := zad a_b17 kk
   have hyo := hyo.keep kk
   have kr := Kp.refl w12 n_
   clear kk
   refine RT ?_
   refine KGO ?_
   refine CallS.of (Tryz.call11 _ _) (zaa (w := w12) G lx[i].m.id ((rg).keep J12) (by omega)) ?_
   rintro e w13 ⟨rfl, kk⟩
   rw [hG]
   have J13 : Kp w8 w13 n_ := (J12).trans0 kk
   have a_b16 := zad a_b16 kk
   have a_b17 := zad a_b17 kk
   have hyo := hyo.keep kk
   have kr := Kp.refl w13 n_
   clear kk
   refine RT ?_
   refine KGO ?_
   refine CallS.of (Tryz.call11 _ _) (zaa (w := w13) C lx[i].m.id ((rc).keep J13) (by omega)) ?_
   rintro e w14 ⟨rfl, kk⟩
   rw [hC]
   have J14 : Kp w8 w14 n_ := (J13).trans0 kk
   have a_b16 := zad a_b16 kk
   have a_b17 := zad a_b17 kk
   have hyo := hyo.keep kk
   have kr := Kp.refl w14 n_
   clear kk
   refine RT ?_
   refine KGO ?_
   refine CallS.of (Tryz.call11 _ _) (zaa (w := w14) C lx[i].m.id ((rc).keep J14) (by omega)) ?_
   rintro e w15 ⟨rfl, kk⟩
   rw [hC]
   have J15 : Kp w8 w15 n_ := (J14).trans0 kk
   have a_b16 := zad a_b16 kk
   have a_b17 := zad a_b17 kk
   have hyo := hyo.keep kk
   have kr := Kp.refl w15 n_
   clear kk
   refine RT ?_
   refine KGO ?_
   refine CallS.of (Tryz.call16 _ _) (ziW (w := w15) y.m.boxes lx[i].m.boxes hyo.b (hxo1.b.keep J15) hyb.1 hxb.1) ?_
   rintro e w16 ⟨rfl, kk⟩
   rw [decide_eq_true (show y.m.boxes = lx[i].m.boxes by rw [hz])]
   have J16 := J15.trans0 kk
   have a_b16 := zad a_b16 kk
   have a_b17 := zad a_b17 kk
   have hyo := hyo.keep kk
   have kr := Kp.refl w16 n_
   refine RT ?_
   refine KGO ?_
   refine CallS.of (Tryz.call17 _ _) (zhZ (w := w16) y.m.flags lx[i].m.flags hyo.f (hxo1.f.keep J16) hyb.2 hxb.2) ?_
   rintro e w17 ⟨rfl, kk⟩
   rw [decide_eq_true (show y.m.flags = lx[i].m.flags by rw [hz])]
   have J17 := J16.trans0 kk
   have hyo := hyo.keep kk
   have a_b16 := zad a_b16 kk
   have a_b17 := zad a_b17 kk
   have kr := Kp.refl w17 n_
   refine RT ?_
   refine KGO ?_
   refine CallS.of (Tryz.call11 _ _) (zaa (w := w17) C lx[i].m.id ((rc).keep J17) (by omega)) ?_
   rintro e w18 ⟨rfl, kk⟩
   rw [hC]
   have J18 : Kp w8 w18 n_ := (J17).trans0 kk
   have a_b16 := zad a_b16 kk
   have a_b17 := zad a_b17 kk
   have hyo := hyo.keep kk
   have kr := Kp.refl w18 n_
   clear kk
   refine RT ?_
   refine KGO ?_
   exact ⟨i + 1, ⟨rfl, rfl, rfl, rfl, rfl, v_int (by rw [hcs]; simp), v_int (by simp), trivial⟩, ⟨J18, by omega⟩, by dsimp only; omega⟩
end
end Go.Proofs.YtcplagfblmemhaaGreatDoor
namespace Go.Proofs.YtcplagfblmemhaaGreatDoor
set_option linter.unusedVariables false
set_option maxHeartbeats 16000000
open Go.Shelf Go.RowKit Go.Pw Go.Vc Go.Cs Go.Lib
set_option maxRecDepth 100000
set_option linter.unusedVariables false
theorem zoe {P : Program} {w : World} {name : String} {g : Nat} {tS tE : TypeId} {fs : Array Field} {k : IntKind} {zs : List (List Int)} {rest : List (DataW Unit)}
  (h : VarReads P w name (.slice (zs.map fun r => .agg (r.map fun z => .lit (.int k z))) rest)) (hn : P.globalNamed name = some g) (hy : (P.globals[g]?).map (·.type) = some tS)
  (hS : P.underlying tS = some (.slice tE)) (hE : P.underlying tE = some (.struct fs)) (hf : ∀ (i : Nat) (f : Field), fs[i]? = some f → P.underlying f.type = some (.int k) ∧ f.offset = i ∧ P.cellsOf f.type = 1)
  (hc : P.cellsOf tE = fs.size) (h0 : 0 < fs.size) (hz : 0 < zs.length) : ∃ b o c, w.cell? ⟨g, 0, none⟩ = some (.slice (some ⟨b, o, none⟩) zs.length c) ∧ ∀ i, i < zs.length → At w b (o + i * fs.size) ((zs.getD i []).map fun z => Value.int k z) := by
 obtain ⟨g', t, cs, fuel, p, hg, hty, hvar, hd⟩ := h
 obtain rfl := Option.some.inj (hn.symm.trans hg)
 obtain rfl := Option.some.inj (hy.symm.trans hty)
 rcases DataW.trod_slice hS hd with ⟨_, hx⟩ | ⟨a, len, cap, el, rs, m, rfl, hcs, hx, _, hlc, _, hel, helem, hsp, _⟩
 ·cases hx
 have hx1 := congrArg Prod.fst hx
 simp only [DataW.slice.injEq] at hx1
 obtain ⟨eE, eR⟩ := hx1
 have hlen : len = zs.length := by
  have := congrArg List.length eE
  simp at this
  omega
 subst hlen
 have hrange : ∀ i (hi : i < zs.length) j v, (zs[i].map fun z => Value.int k z)[j]? = some v → w.cell? ((a.add (i * fs.size)).add j) = some v := by
  intro i hi j v hv
  have h1 := helem i hi
  rw [hc] at h1
  obtain ⟨b, hb⟩ : ∃ b, el[i]? = some b := ⟨el[i]'(by omega), List.getElem?_eq_getElem (by omega)⟩
  rw [hb] at h1
  obtain ⟨ce, hce, hte⟩ := Option.bind_eq_some_iff.1 h1
  have hb1 : b.1 = .agg (zs[i].map fun z => .lit (.int k z)) := by
   have := congrArg (·[i]?) eE
   simpa [hb, hi] using this.symm
  have hcs := ints_of_struct (p := b.2) hE hf hc (by rw [← hb1]; exact hte)
  obtain ⟨_, hl, hcc⟩ := World.cells?_some hce
  have hj : j < fs.size := by
   have := (List.getElem?_eq_some_iff.1 hv).1
   rw [← hcs, hl] at this
   exact this
  rw [hcc j hj, hcs, hv]
 obtain ⟨R, oR, sR⟩ := a
 obtain rfl : sR = none := by
  have hl0 : 0 < (zs[0].map fun z => Value.int k z).length := by
   have h1 := helem 0 hz
   rw [hc] at h1
   obtain ⟨b, hb⟩ : ∃ b, el[0]? = some b := ⟨el[0]'(by omega), List.getElem?_eq_getElem (by omega)⟩
   rw [hb] at h1
   obtain ⟨ce, hce, hte⟩ := Option.bind_eq_some_iff.1 h1
   have hb1 : b.1 = .agg (zs[0].map fun z => .lit (.int k z)) := by
    have := congrArg (·[0]?) eE
    simpa [hb, hz] using this.symm
   have hcs := ints_of_struct (p := b.2) hE hf hc (by rw [← hb1]; exact hte)
   obtain ⟨_, hl, _⟩ := World.cells?_some hce
   rw [← hcs, hl]; exact h0
  have h00 := hrange 0 hz 0 _ (List.getElem?_eq_getElem hl0)
  have : (Addr.add (Addr.add ⟨R, oR, sR⟩ (0 * fs.size)) 0) = ⟨R, oR, sR⟩ := by simp [Addr.add]
  rw [this] at h00
  exact cell_spot h00
 refine ⟨R, oR, cap, ?_, fun i hi j v hj => ?_⟩
 ·rw [World.var?_cell hg hvar 0, ← Array.getElem?_toList, hcs]
  rfl
 ·rw [List.getD_eq_getElem?_getD, List.getElem?_eq_getElem hi, Option.getD_some] at hj
  have := hrange i hi j v hj
  rw [Addr.add_lit, Addr.add_lit] at this
  exact this
def foldZ : List (List Int) := foldT.map fun x => [x.1, x.2.1, x.2.2.1, x.2.2.2]
theorem zlj : (Rows.laid_pouch_fold_spans : DataW Unit) = .slice (foldZ.map fun r => .agg (r.map fun z => .lit (.int .i32 z))) [] := by kernel_rfl
theorem zez {W : World} (h : VarReads Tryz.prog W "pouch/fold.spans" Rows.laid_pouch_fold_spans) : FoldTab W := by
 rw [zlj] at h
 obtain ⟨b, o, c, h1, h2⟩ := zoe h (by kernel_rfl) (by kernel_rfl) Tryz.underlying243 Tryz.underlying245 (fun j f hj => by
   match j, hj with
   | 0, hj => simp at hj; subst hj; exact ⟨Tryz.underlying21, rfl, by kernel_rfl⟩
   | 1, hj => simp at hj; subst hj; exact ⟨Tryz.underlying21, rfl, by kernel_rfl⟩
   | 2, hj => simp at hj; subst hj; exact ⟨Tryz.underlying21, rfl, by kernel_rfl⟩
   | 3, hj => simp at hj; subst hj; exact ⟨Tryz.underlying21, rfl, by kernel_rfl⟩
   | j + 4, hj => simp at hj) (by kernel_rfl) (by decide) (by decide)
 refine ⟨b, o, c, h1, fun i hi => ?_⟩
 have := h2 i hi
 have e : (foldZ.getD i []).map (fun z => Value.int .i32 z) = spF (foldSp i) := by
  have : ∀ i : Fin 17, (foldZ.getD i.val []) = [(foldSp i.val).1, (foldSp i.val).2.1, (foldSp i.val).2.2.1, (foldSp i.val).2.2.2] := by decide
  have := this ⟨i, hi⟩
  rw [show foldZ.getD i [] = _ from this]; rfl
 rw [e] at this
 exact this
theorem zmu {P : Program} {w : World} {name : String} {g : Nat} {tS tE : TypeId} {zs : List (List UInt8)} {rest : List (DataW Unit)}
  (h : VarReads P w name (.slice (zs.map fun z => .lit (.string z)) rest)) (hn : P.globalNamed name = some g) (hy : (P.globals[g]?).map (·.type) = some tS)
  (hS : P.underlying tS = some (.slice tE)) (hE : P.underlying tE = some .string)
  (hc : P.cellsOf tE = 1) (hz : 0 < zs.length) : ∃ b o c, w.cell? ⟨g, 0, none⟩ = some (.slice (some ⟨b, o, none⟩) zs.length c) ∧ b < w.heap.size ∧ At w b o (zs.map sv) := by
 obtain ⟨g', t, cs, fuel, p, hg, hty, hvar, hd⟩ := h
 obtain rfl := Option.some.inj (hn.symm.trans hg)
 obtain rfl := Option.some.inj (hy.symm.trans hty)
 rcases DataW.trod_slice hS hd with ⟨_, hx⟩ | ⟨a, len, cap, el, rs, m, rfl, hcs, hx, _, hlc, _, hel, helem, hsp, _⟩
 ·cases hx
 have hx1 := congrArg Prod.fst hx
 simp only [DataW.slice.injEq] at hx1
 obtain ⟨eE, eR⟩ := hx1
 have hlen : len = zs.length := by
  have := congrArg List.length eE
  simp at this
  omega
 subst hlen
 have hrange : ∀ i (hi : i < zs.length), w.cell? (a.add i) = some (sv zs[i]) := by
  intro i hi
  have h1 := helem i hi
  rw [hc, Nat.mul_one] at h1
  obtain ⟨b, hb⟩ : ∃ b, el[i]? = some b := ⟨el[i]'(by omega), List.getElem?_eq_getElem (by omega)⟩
  rw [hb] at h1
  obtain ⟨ce, hce, hte⟩ := Option.bind_eq_some_iff.1 h1
  have hb1 : b.1 = .lit (.string zs[i]) := by
   have := congrArg (·[i]?) eE
   simpa [hb, hi] using this.symm
  obtain ⟨s, e, gg, _⟩ := DataW.trod_string hE hte
  have hs : s.data.toList = zs[i] := by
   have := congrArg Prod.fst gg
   rw [hb1] at this
   first | (simpa using this.symm) | (simpa using this)
  obtain ⟨_, hl, hcc⟩ := World.cells?_some hce
  have := hcc 0 (by omega)
  rw [e] at this
  have e0 : (a.add i).add 0 = a.add i := by simp [Addr.add]
  rw [e0] at this
  rw [this, ← hs]; rfl
 obtain ⟨R, oR, sR⟩ := a
 obtain rfl : sR = none := by
  have h00 := hrange 0 hz
  have : (Addr.add ⟨R, oR, sR⟩ 0) = ⟨R, oR, sR⟩ := by simp [Addr.add]
  rw [this] at h00
  exact cell_spot h00
 refine ⟨R, oR, cap, ?_, ?_, fun i v hi => ?_⟩
 ·rw [World.var?_cell hg hvar 0, ← Array.getElem?_toList, hcs]
  rfl
 ·exact cell_lt (hrange 0 hz)
 ·rw [List.getElem?_map] at hi
  obtain ⟨x, hx, rfl⟩ := Option.map_eq_some_iff.1 hi
  obtain ⟨hi2, rfl⟩ := List.getElem?_eq_some_iff.1 hx
  have := hrange i hi2
  rw [Addr.add_lit] at this
  exact this
theorem zkq : (Rows.laid_pouch_box_roles : DataW Unit) = .slice (rolesL.map fun z => .lit (.string z)) [] := by kernel_rfl
theorem zdo {W : World} (h : VarReads Tryz.prog W "pouch/box.roles" Rows.laid_pouch_box_roles) : RolesTab W := by
 rw [zkq] at h
 exact zmu h (by kernel_rfl) (by kernel_rfl) Tryz.underlying58 Tryz.underlying9 (by kernel_rfl) (by decide)
abbrev cI : Int → List Value := fun z => [Value.int .i64 z]
abbrev pI : Int → Prop := fun z => -9223372036854775808 ≤ z ∧ z ≤ 9223372036854775807
abbrev cS : ByteArray → List Value := fun z => [Value.string z]
abbrev pS : ByteArray → Prop := fun z => z.size ≤ 140737488355328
abbrev cB : List Int → List Value := fun l => l.map (Value.int .u8)
abbrev pB : List Int → Prop := fun l => l.length = 32
abbrev cV : Value × List Int → List Value := fun y => [y.1]
abbrev cW : Value × List (List UInt8) → List Value := fun y => [y.1]
abbrev pV (W : World) : Value × List Int → Prop := fun y => RowI W y.1 y.2 ∧ y.2.length * 8 ≤ 140737488351232 ∧ ∀ z ∈ y.2, pI z
abbrev pW (W : World) : Value × List (List UInt8) → Prop := fun y => RowT W y.1 y.2 ∧ y.2.length * 16 ≤ 140737488351232 ∧ ∀ z ∈ y.2, z.length ≤ 140737488355328
theorem zkn {W : World} : Opens Tryz.prog W 37 cV (pV W) := @zdp _ W _ _ Int _ inC pI 1 8 Tryz.underlying37 (@zbC _ _ _ Tryz.underlying3) (fun _ => rfl) (by decide) (by kernel_rfl) (by kernel_rfl) (by decide)
theorem zlQ {W : World} : Opens Tryz.prog W 9 txC (fun z => z.length ≤ 140737488355328) := @Opens.imp _ _ _ _ _ _ _ _ _ (@zcd _ W _ Tryz.underlying9) L (fun s => by show [Value.string s] = [Value.string (str (L s))]; rw [str_L]) (fun s h => by rw [show (L s).length = s.size from by rw [← zbe, str_L]]; exact h)
theorem zgE {W : World} : Opens Tryz.prog W 58 cW (pW W) := @zdp _ W _ _ (List UInt8) _ txC (fun z => z.length ≤ 140737488355328) 1 16 Tryz.underlying58 (@zlQ W) (fun _ => rfl) (by decide) (by kernel_rfl) (by kernel_rfl) (by decide)
abbrev Ty14 := Unit
abbrev Cc14 : Ty14 → List Value := fun _ => []
abbrev Pp14 (W : World) : Ty14 → Prop := fun _ => True
abbrev Ty13 := (Int) × Ty14
abbrev Cc13 : Ty13 → List Value := fun y => cI y.1 ++ Cc14 y.2
abbrev Pp13 (W : World) : Ty13 → Prop := fun y => pI y.1 ∧ Pp14 W y.2
abbrev Ty12 := (Int) × Ty13
abbrev Cc12 : Ty12 → List Value := fun y => cI y.1 ++ Cc13 y.2
abbrev Pp12 (W : World) : Ty12 → Prop := fun y => pI y.1 ∧ Pp13 W y.2
abbrev Ty11 := (Int) × Ty12
abbrev Cc11 : Ty11 → List Value := fun y => cI y.1 ++ Cc12 y.2
abbrev Pp11 (W : World) : Ty11 → Prop := fun y => pI y.1 ∧ Pp12 W y.2
abbrev Ty10 := (Value × List (List UInt8)) × Ty11
abbrev Cc10 : Ty10 → List Value := fun y => cW y.1 ++ Cc11 y.2
abbrev Pp10 (W : World) : Ty10 → Prop := fun y => (pW W) y.1 ∧ Pp11 W y.2
abbrev Ty9 := (Value × List (List UInt8)) × Ty10
abbrev Cc9 : Ty9 → List Value := fun y => cW y.1 ++ Cc10 y.2
abbrev Pp9 (W : World) : Ty9 → Prop := fun y => (pW W) y.1 ∧ Pp10 W y.2
abbrev Ty8 := (Value × List Int) × Ty9
abbrev Cc8 : Ty8 → List Value := fun y => cV y.1 ++ Cc9 y.2
abbrev Pp8 (W : World) : Ty8 → Prop := fun y => (pV W) y.1 ∧ Pp9 W y.2
abbrev Ty7 := (List Int) × Ty8
abbrev Cc7 : Ty7 → List Value := fun y => cB y.1 ++ Cc8 y.2
abbrev Pp7 (W : World) : Ty7 → Prop := fun y => pB y.1 ∧ Pp8 W y.2
abbrev Ty6 := (ByteArray) × Ty7
abbrev Cc6 : Ty6 → List Value := fun y => cS y.1 ++ Cc7 y.2
abbrev Pp6 (W : World) : Ty6 → Prop := fun y => pS y.1 ∧ Pp7 W y.2
abbrev Ty5 := (ByteArray) × Ty6
abbrev Cc5 : Ty5 → List Value := fun y => cS y.1 ++ Cc6 y.2
abbrev Pp5 (W : World) : Ty5 → Prop := fun y => pS y.1 ∧ Pp6 W y.2
abbrev Ty4 := (ByteArray) × Ty5
abbrev Cc4 : Ty4 → List Value := fun y => cS y.1 ++ Cc5 y.2
abbrev Pp4 (W : World) : Ty4 → Prop := fun y => pS y.1 ∧ Pp5 W y.2
abbrev Ty3 := (Int) × Ty4
abbrev Cc3 : Ty3 → List Value := fun y => cI y.1 ++ Cc4 y.2
abbrev Pp3 (W : World) : Ty3 → Prop := fun y => pI y.1 ∧ Pp4 W y.2
abbrev Ty2 := (Int) × Ty3
abbrev Cc2 : Ty2 → List Value := fun y => cI y.1 ++ Cc3 y.2
abbrev Pp2 (W : World) : Ty2 → Prop := fun y => pI y.1 ∧ Pp3 W y.2
abbrev Ty1 := (Int) × Ty2
abbrev Cc1 : Ty1 → List Value := fun y => cI y.1 ++ Cc2 y.2
abbrev Pp1 (W : World) : Ty1 → Prop := fun y => pI y.1 ∧ Pp2 W y.2
abbrev Ty0 := (Int) × Ty1
abbrev Cc0 : Ty0 → List Value := fun y => cI y.1 ++ Cc1 y.2
abbrev Pp0 (W : World) : Ty0 → Prop := fun y => pI y.1 ∧ Pp1 W y.2
def slOf : Value → Sl
 | .slice a n c => ⟨a, n, c⟩
 | _ => ⟨none, 0, 0⟩
def dgOf (l : List Int) : Dg := ⟨l[0]!, l[1]!, l[2]!, l[3]!, l[4]!, l[5]!, l[6]!, l[7]!, l[8]!, l[9]!, l[10]!, l[11]!, l[12]!, l[13]!, l[14]!, l[15]!, l[16]!, l[17]!, l[18]!, l[19]!, l[20]!, l[21]!, l[22]!, l[23]!, l[24]!, l[25]!, l[26]!, l[27]!, l[28]!, l[29]!, l[30]!, l[31]!⟩
theorem dg_of {l : List Int} (h : l.length = 32) : l.map (Value.int .u8) = dgC (dgOf l) := by
 have e : dgC (dgOf l) = (List.range 32).map (fun i => Value.int .u8 l[i]!) := rfl
 rw [e]
 refine List.ext_getElem? fun i => ?_
 by_cases hi : i < 32
 ·have hl : i < l.length := by omega
  simp [hi, hl]
 ·rw [List.getElem?_eq_none (by simp; omega), List.getElem?_eq_none (by simp; omega)]
theorem sl_of {α : Type} {W : World} {v : Value} {c : α → List Value} {l : List α} (h : RowO W v c l) : v = (slOf v).v := by
 obtain ⟨a, cap, rfl, _⟩ := h
 rfl
def opOf (y : Ty0) : Ov × Opr := (⟨slOf y.2.2.2.2.2.2.2.2.1.1, slOf y.2.2.2.2.2.2.2.2.2.1.1, slOf y.2.2.2.2.2.2.2.2.2.2.1.1⟩, ⟨y.1, y.2.1, y.2.2.1, y.2.2.2.1, L y.2.2.2.2.1, L y.2.2.2.2.2.1, L y.2.2.2.2.2.2.1, dgOf y.2.2.2.2.2.2.2.1, y.2.2.2.2.2.2.2.2.1.2, y.2.2.2.2.2.2.2.2.2.1.2, y.2.2.2.2.2.2.2.2.2.2.1.2, y.2.2.2.2.2.2.2.2.2.2.2.1, y.2.2.2.2.2.2.2.2.2.2.2.2.1, y.2.2.2.2.2.2.2.2.2.2.2.2.2.1⟩)
theorem zoH {W : World} (y : Ty0) (h : Pp0 W y) : Cc0 y = opC' (opOf y) := by
 obtain ⟨y0, y1, y2, y3, y4, y5, y6, y7, ⟨y8, z8⟩, ⟨y9, z9⟩, ⟨y10, z10⟩, y11, y12, y13, y14⟩ := y
 obtain ⟨_, _, _, _, _, _, _, h7, ⟨h8, _⟩, ⟨h9, _⟩, ⟨h10, _⟩, _⟩ := h
 dsimp only at h7 h8 h9 h10
 have e8 := sl_of h8
 have e9 := sl_of h9
 have e10 := sl_of h10
 have e7 := dg_of h7
 show [Value.int .i64 y0] ++ ([Value.int .i64 y1] ++ ([Value.int .i64 y2] ++ ([Value.int .i64 y3] ++ ([Value.string y4] ++ ([Value.string y5] ++ ([Value.string y6] ++ (y7.map (Value.int .u8) ++ ([y8] ++ ([y9] ++ ([y10] ++ ([Value.int .i64 y11] ++ ([Value.int .i64 y12] ++ ([Value.int .i64 y13] ++ []))))))))))))) = opC (opOf _).1 (opOf _).2
 rw [e7]
 unfold opOf opC
 dsimp only
 rw [str_L, str_L, str_L]
 show _ = [Value.int .i64 y0, .int .i64 y1, .int .i64 y2, .int .i64 y3, .string y4, .string y5, .string y6] ++ (dgC (dgOf y7) ++ [(slOf y8).v, (slOf y9).v, (slOf y10).v, .int .i64 y11, .int .i64 y12, .int .i64 y13])
 rw [← e8, ← e9, ← e10]
 simp only [List.nil_append, List.cons_append, List.append_nil]
theorem zqR {W : World} (y : Ty0) (h : Pp0 W y) : OpR W (opOf y).1 (opOf y).2 ∧ FitO (opOf y).2 := by
 obtain ⟨y0, y1, y2, y3, y4, y5, y6, y7, ⟨y8, z8⟩, ⟨y9, z9⟩, ⟨y10, z10⟩, y11, y12, y13, y14⟩ := y
 obtain ⟨_, _, _, _, h4, h5, h6, h7, ⟨h8, b8, _⟩, ⟨h9, b9, c9⟩, ⟨h10, b10, c10⟩, _⟩ := h
 dsimp only at h4 h5 h6 h7 h8 b8 h9 b9 c9 h10 b10 c10
 have hL : ∀ s : ByteArray, (L s).length = s.size := fun s => by rw [← zbe, str_L]
 refine ⟨⟨?_, ?_, ?_⟩, ⟨by show z8.length ≤ _; omega, by show z9.length ≤ _; omega, by show z10.length ≤ _; omega, c9, c10, by show (L y4).length ≤ _; rw [hL]; exact h4, by show (L y5).length ≤ _; rw [hL]; exact h5, by show (L y6).length ≤ _; rw [hL]; exact h6⟩⟩
 ·show RowI W (slOf y8).v z8
  rw [← sl_of h8]; exact h8
 ·show RowT W (slOf y9).v z9
  rw [← sl_of h9]; exact h9
 ·show RowT W (slOf y10).v z10
  rw [← sl_of h10]; exact h10
theorem zny {W : World} : Opens Tryz.prog W 72 opC' (fun p => OpR W p.1 p.2 ∧ FitO p.2) := by
 refine @Opens.impP _ _ _ _ _ Cc0 (Pp0 W) _ _ (@zhG _ _ _ _ 45 Ty0 Cc0 (Pp0 W) Tryz.underlying72 (by kernel_rfl) ?h) opOf zoH zqR
 refine @zaH _ _ _ _ _ _ 1 _ _ cI pI Cc1 (Pp1 W) rfl ?_ ?_ ?_
 ·kernel_rfl
 ·exact @zbC _ _ _ Tryz.underlying3
 refine @zaH _ _ _ _ _ _ 1 _ _ cI pI Cc2 (Pp2 W) rfl ?_ ?_ ?_
 ·kernel_rfl
 ·exact @zbC _ _ _ Tryz.underlying3
 refine @zaH _ _ _ _ _ _ 1 _ _ cI pI Cc3 (Pp3 W) rfl ?_ ?_ ?_
 ·kernel_rfl
 ·exact @zbC _ _ _ Tryz.underlying3
 refine @zaH _ _ _ _ _ _ 1 _ _ cI pI Cc4 (Pp4 W) rfl ?_ ?_ ?_
 ·kernel_rfl
 ·exact @zbC _ _ _ Tryz.underlying3
 refine @zaH _ _ _ _ _ _ 1 _ _ cS pS Cc5 (Pp5 W) rfl ?_ ?_ ?_
 ·kernel_rfl
 ·exact @zcd _ _ _ Tryz.underlying9
 refine @zaH _ _ _ _ _ _ 1 _ _ cS pS Cc6 (Pp6 W) rfl ?_ ?_ ?_
 ·kernel_rfl
 ·exact @zcd _ _ _ Tryz.underlying9
 refine @zaH _ _ _ _ _ _ 1 _ _ cS pS Cc7 (Pp7 W) rfl ?_ ?_ ?_
 ·kernel_rfl
 ·exact @zcd _ _ _ Tryz.underlying9
 refine @zaH _ _ _ _ _ _ 32 _ _ cB pB Cc8 (Pp8 W) rfl ?_ ?_ ?_
 ·kernel_rfl
 ·exact @ziy _ _ _ 32 _ .u8 Tryz.underlying57 Tryz.underlying5 (by kernel_rfl) (by kernel_rfl)
 refine @zaH _ _ _ _ _ _ 1 _ _ cV (pV W) Cc9 (Pp9 W) rfl ?_ ?_ ?_
 ·kernel_rfl
 ·exact @zkn W
 refine @zaH _ _ _ _ _ _ 1 _ _ cW (pW W) Cc10 (Pp10 W) rfl ?_ ?_ ?_
 ·kernel_rfl
 ·exact @zgE W
 refine @zaH _ _ _ _ _ _ 1 _ _ cW (pW W) Cc11 (Pp11 W) rfl ?_ ?_ ?_
 ·kernel_rfl
 ·exact @zgE W
 refine @zaH _ _ _ _ _ _ 1 _ _ cI pI Cc12 (Pp12 W) rfl ?_ ?_ ?_
 ·kernel_rfl
 ·exact @zbC _ _ _ Tryz.underlying3
 refine @zaH _ _ _ _ _ _ 1 _ _ cI pI Cc13 (Pp13 W) rfl ?_ ?_ ?_
 ·kernel_rfl
 ·exact @zbC _ _ _ Tryz.underlying3
 refine @zaH _ _ _ _ _ _ 1 _ _ cI pI Cc14 (Pp14 W) rfl ?_ ?_ ?_
 ·kernel_rfl
 ·exact @zbC _ _ _ Tryz.underlying3
 exact @zlD _ _ _
instance : Inhabited (Ov × Opr) := ⟨(⟨⟨none, 0, 0⟩, ⟨none, 0, 0⟩, ⟨none, 0, 0⟩⟩, ⟨0, 0, 0, 0, [], [], [], dgOf [], [], [], [], 0, 0, 0⟩)⟩
theorem zmV {W : World} {H : Type} {enc : TypeId × Value → H} {v : Value} {d : DataW H} {ps : List MemPlace} (hs : v.cells.toList = [v]) (ht : DataW.Trod enc Tryz.prog W 0 (fun _ => true) true 22 v d ps) (hsz : ∀ n ∈ d.weights Tryz.prog 22, n ≤ reachBytes) :
  ∃ l : List Opr, RowOp W v l ∧ l.length ≤ 1000000000000 ∧ ∀ o ∈ l, FitO o := by
 have op := @zdp Tryz.prog W 22 _ (Ov × Opr) _ _ _ 45 208 Tryz.underlying22 (@zny W) (fun _ => rfl) (by decide) (by kernel_rfl) (by kernel_rfl) (by decide)
 obtain ⟨⟨v1, l⟩, e, h1, h2, h3⟩ := ziJ (@op) ht hsz
 rw [hs] at e
 obtain rfl : v = v1 := by simpa using e
 dsimp only at h1 h2 h3
 refine ⟨l.map (·.2), ⟨l, rfl, h1, fun p hp => (h3 p hp).1⟩, by rw [List.length_map]; omega, fun o ho => ?_⟩
 obtain ⟨p, hp, rfl⟩ := List.mem_map.1 ho
 exact (h3 p hp).2
theorem u8x3 : U8Extra Tryz.prog ren196 := ⟨by kernel_rfl, by kernel_rfl, by kernel_rfl, by kernel_rfl, by kernel_rfl, by kernel_rfl, by kernel_rfl⟩
theorem zpm : (Rows.laid_unicode_utf8_acceptRanges : DataW Unit) = acceptData := by kernel_rfl
theorem zpM : Rows.laid_unicode_utf8_first = firstData := Pinned.utf8First_eq
theorem zhj {W : World} (h3 : VarReads Tryz.prog W "unicode/utf8.first" Rows.laid_unicode_utf8_first) (h4 : VarReads Tryz.prog W "unicode/utf8.acceptRanges" Rows.laid_unicode_utf8_acceptRanges) : Tabs W := by
 rw [zpm] at h4
 rw [zpM] at h3
 exact utf8Tabs_of_readsT (U8Types.of196 lays196) u8x3 h3 h4
end Go.Proofs.YtcplagfblmemhaaGreatDoor
