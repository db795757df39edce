/- Helper lemmas that the proved statement rests on; no conditions of their own. -/
import Derived.Test.YtmjeacpoobbjjaaGreatDoorGYn1
set_option linter.unusedVariables false
set_option maxHeartbeats 4000000
set_option maxRecDepth 100000
namespace Go.Proofs.YtmjeacpoobbjjaaGreatDoor
open Go.Shelf Go.RowKit Go.Pw Go.Vc Go.Cs Go.Lib Go.Tk Go.Hd Go.Ty
abbrev TR := Sl × List Tkn
def trC (x : TR) : List Value := [x.1.v]
theorem lenTr (x : TR) : (trC x).length = 1 := rfl
theorem trInfo : (Tryz.prog.info? 78).map (fun i => (i.zero, i.size, i.bytes)) = some (some (.slice none 0 0), 1, 24) := by kernel_rfl
theorem tyTr : RowTy 101 78 trC 1 24 := ⟨Tryz.underlying101, ⟨_, trInfo, rfl⟩, by decide, fun _ => rfl, fun x u hu => by rw [List.mem_singleton.1 hu]; rfl⟩
theorem bs1Tr (w : World) : (Instr.buildSlice 101 1 [(0, .slice none 0 0)].toArray).run Tryz.prog w = .ok (.slice (some ⟨w.heap.size, 0, none⟩) 1 1) (w.alloc (.cells (List.toArray [.slice none 0 0]) 78)) := by
 simp [Instr.buildSlice, go_sem, Tryz.runUnderlying101]
def RowTT (w : World) (v : Value) (l : List (List Tkn)) : Prop := ∃ hs : List TR, RowO w v trC hs ∧ CapK v ∧ hs.map (·.2) = l ∧ ∀ x ∈ hs, RowO w x.1.v tkC x.2 ∧ CapK x.1.v
theorem RowTT.keep {w w' : World} {v : Value} {l : List (List Tkn)} (h : RowTT w v l) (k : Kp w w' n_) : RowTT w' v l :=
 let ⟨hs, h1, h4, h2, h3⟩ := h
 ⟨hs, h1.keep k, h4, h2, fun x hx => ⟨(h3 x hx).1.keep k, (h3 x hx).2⟩⟩
def rowsF : List (List Tkn) → List Tkn → List Tkn → List (List Tkn)
 | done, last, [] => done ++ [last]
 | done, last, t :: r => if t = (4, [59]) then rowsF (done ++ [last]) [] r else rowsF done (last ++ [t]) r
theorem zfh : ∀ (l : List Tkn) (done : List (List Tkn)) (last : List Tkn), rowsF done last l = done ++ (match rowsC l with | [] => [last] | a :: b => (last ++ a) :: b)
 | [], done, last => by simp [rowsF, rowsC]
 | t :: r, done, last => by
  unfold rowsF rowsC
  by_cases h : t = (4, [59])
  ·rw [if_pos h, if_pos h, zfh r]
   cases hr : rowsC r with
   | nil => exact absurd hr (zcf r)
   | cons a b => simp
  ·rw [if_neg h, if_neg h, zfh r]
   cases hr : rowsC r with
   | nil => exact absurd hr (zcf r)
   | cons a b => simp
theorem zjf (l : List Tkn) : rowsF [] [] l = rowsC l := by
 rw [zfh]
 cases hr : rowsC l with
 | nil => exact absurd hr (zcf l)
 | cons a b => simp
theorem zbj {w : World} {B B' s s' n n' q : Nat} {E E' : TypeId} {v v' : Value} {xs xs' : List Value} (h : w.ownsRow B E s v n xs) (h' : w.ownsRow B' E' s' v' n' xs') (hE : E ≠ E') (hq : v.ownBlock = some q) : ¬ v'.ownBlock = some q := fun hq' => by
 obtain ⟨cs, z, h1, _⟩ := zah h hq
 obtain ⟨cs', z', h2, _⟩ := zah h' hq'
 rw [h1] at h2
 injection h2 with h2
 injection h2 with _ h2
 exact hE h2
section
variable {w : World}
structure RwI (w wr : World) (v : Value) (tk : TR) (done : List TR) (last : TR) (B2 : Nat) : Prop where
 k : Kp w wr n_
 out : OwnR 78 trC 1 wr w.heap.size v (done ++ [last])
 dn : ∀ x ∈ tk :: done, OwnTk wr w.heap.size x.1.v x.2 ∧ ∀ q, x.1.v.ownBlock = some q → q < B2
 la : OwnTk wr B2 last.1.v last.2
 b1 : w.heap.size ≤ B2
 b2 : B2 ≤ wr.heap.size
theorem RwI.keep {wr w' : World} {v : Value} {tk : TR} {done : List TR} {last : TR} {B2 : Nat} (h : RwI w wr v tk done last B2) (k : Kp wr w' n_) : RwI w w' v tk done last B2 :=
 ⟨h.k.trans0 k, zai h.out k, fun x hx => ⟨zai (h.dn x hx).1 k, (h.dn x hx).2⟩, zai h.la k, h.b1, Nat.le_trans h.b2 k.size⟩
theorem RwI.next {wr w' : World} {v v' : Value} {tk : TR} {done : List TR} {last : TR} {B2 : Nat} (h : RwI w wr v tk done last B2) (o : OwnR 78 trC 1 w' w.heap.size v' ((done ++ [last]) ++ [(⟨none, 0, 0⟩, [])])) (k : Kp wr w' (own_ v)) : RwI w w' v' tk (done ++ [last]) (⟨none, 0, 0⟩, []) w'.heap.size := by
 have hout := h.out
 have hs := k.size
 have hb1 := h.b1
 have hb2 := h.b2
 refine ⟨h.k.trans k fun q hq e => ?_, o, fun x hx => ?_, World.ownsRow_nil _ _ _ _, by omega, Nat.le_refl _⟩
 ·obtain ⟨_, _, _, h3, _⟩ := zah hout e
  omega
 ·have hx' : (x ∈ tk :: done) ∨ x = last := by
   rcases List.mem_cons.1 hx with e | e
   ·exact .inl (by rw [e]; exact List.mem_cons_self)
   ·rcases List.mem_append.1 e with e | e
    ·exact .inl (List.mem_cons_of_mem _ e)
    ·exact .inr (by simpa using e)
  have hown : OwnTk wr w.heap.size x.1.v x.2 := by
   rcases hx' with e | rfl
   ·exact (h.dn x e).1
   ·exact zan h.la hb1
  refine ⟨zaf hown k fun q hq e => zbj hown hout (by decide) hq e, fun q hq => ?_⟩
  obtain ⟨_, _, _, _, h4⟩ := zah hown hq
  omega
theorem RwI.more {wr w1 w2 : World} {v : Value} {tk : TR} {done : List TR} {last l2 : TR} {B2 b : Nat} (h : RwI w wr v tk done last B2) (o : OwnTk w1 B2 l2.1.v l2.2) (k1 : Kp wr w1 (own_ last.1.v)) (k2 : Kp w1 w2 (one_ b)) (hb : v.ownBlock = some b) (ho : OwnR 78 trC 1 w2 w.heap.size v (done ++ [l2])) : RwI w w2 v tk done l2 B2 := by
 have hs := k1.size
 have hs2 := k2.size
 have hb1 := h.b1
 have hb2 := h.b2
 have hla := h.la
 have out1 : OwnR 78 trC 1 w1 w.heap.size v (done ++ [last]) := zaf h.out k1 fun q hq e => zbj hla h.out (by decide) e hq
 refine ⟨(h.k.trans k1 fun q hq e => ?_).trans k2 fun q hq e => ?_, ho, fun x hx => ?_, zaf o k2 fun q hq e => ?_, hb1, by omega⟩
 ·obtain ⟨_, _, _, h3, _⟩ := zah hla e
  omega
 ·have e : q = b := e
  obtain ⟨_, _, _, h3, _⟩ := zah h.out hb
  omega
 ·obtain ⟨h1, h2⟩ := h.dn x hx
  have hx1 : OwnTk w1 w.heap.size x.1.v x.2 := zaf h1 k1 fun q hq e => by
   obtain ⟨_, _, _, h3, _⟩ := zah hla e
   have := h2 q hq
   omega
  refine ⟨zaf hx1 k2 fun q hq e => ?_, h2⟩
  have e : q = b := e
  subst e
  exact zbj hx1 out1 (by decide) hq hb
 ·have e : q = b := e
  subst e
  exact zbj o out1 (by decide) hq hb
theorem zkZ (s : List UInt8) (hs : s.length ≤ 100000000) (w : World) : Calls Tryz.prog 77 #[.string (str s)] w fun e w' => ∃ v, e = .returned v ∧ RowTT w' v (rowsC (bareT (scanT s))) ∧ Kp w w' n_ := by
 have hz := zae s
 have hsl := zbm s
 refine zaa (args := [.string (str s)]) Tryz.func77 rfl NL ?_; refine GW ?_
 refine RunV.of (bs1Tr _) ?_
 have o0 : OwnR 78 trC 1 (w.alloc (.cells (List.toArray [.slice none 0 0]) 78)) w.heap.size (.slice (some ⟨w.heap.size, 0, none⟩) 1 1) ([] ++ [((⟨none, 0, 0⟩ : Sl), ([] : List Tkn))]) := zhk w (List.toArray [.slice none 0 0]) 78 1 (by simp) (by omega)
 have K0 : Kp w (w.alloc (.cells (List.toArray [.slice none 0 0]) 78)) n_ := (Kp.refl _ _).alloc _
 generalize w.alloc (.cells (List.toArray [.slice none 0 0]) 78) = w0 at *
 refine KGO ?_
 refine CallS.of (Tryz.call51 _ _) (zeP s hs w0) ?_
 rintro e w1 ⟨vs, rfl, os, k1⟩
 refine RT ?_
 refine KGO ?_
 obtain ⟨aS, cS, rfl⟩ := zad os
 refine CallS.of (Tryz.call50 _ _) (zeM (w := w1) (scanT s) (zap os) (by omega)) ?_
 rintro e w2 ⟨vt, rfl, ot, k2⟩
 obtain ⟨at', ct, rfl⟩ := zad ot
 refine RT ?_
 have hbl : (bareT (scanT s)).length ≤ s.length := Nat.le_trans (List.length_filter_le _ _) hsl.2
 obtain ⟨l, hl⟩ : ∃ l, l = bareT (scanT s) := ⟨_, rfl⟩
 rw [← hl] at ot hbl ⊢
 have k02 := k1.trans0 k2
 have hI : RwI w w2 (.slice (some ⟨w.heap.size, 0, none⟩) 1 1) (⟨at', l.length, ct⟩, l) [] (⟨none, 0, 0⟩, []) w2.heap.size :=
  ⟨K0.trans0 k02, zai o0 k02, fun x hx => by
   obtain rfl : x = (⟨at', l.length, ct⟩, l) := by simpa using hx
   refine ⟨zan ot (by have := K0.size; have := k1.size; omega), fun q hq => ?_⟩
   obtain ⟨_, _, _, _, h4⟩ := zah ot hq
   exact h4, World.ownsRow_nil _ _ _ _, (K0.trans0 k02).size, Nat.le_refl _⟩
 refine KGO ?_
 refine Loop.intro (ι := Nat × Value × List TR × TR × Nat) (fun i => [(3, i.2.1), (9, .slice at' l.length ct), (10, .int .i64 (l.length : Nat)), (11, .int .i64 (i.1 : Nat))])
  (fun i wr => RwI w wr i.2.1 (⟨at', l.length, ct⟩, l) i.2.2.1 i.2.2.2.1 i.2.2.2.2 ∧ i.1 ≤ l.length ∧ rowsF (i.2.2.1.map (·.2)) i.2.2.2.1.2 (l.drop i.1) = rowsC l ∧ i.2.2.1.length + i.2.2.2.1.2.length ≤ i.1) (fun i => l.length - i.1)
  (0, .slice (some ⟨w.heap.size, 0, none⟩) 1 1, [], (⟨none, 0, 0⟩, []), w2.heap.size) ⟨rfl, rfl, rfl, rfl, trivial⟩ ⟨hI, Nat.zero_le _, zjf l, Nat.le_refl _⟩ ?_
 clear hI ot os o0 K0 k1 k2 k02
 rintro ⟨i, v, done, last, B2⟩ g wr ⟨hI, hi, he, hn⟩
 dsimp only at hI hi he hn ⊢
 obtain ⟨vo, vc, rfl⟩ := zad hI.out
 refine GW ?_
 by_cases hlt : i < l.length
 ·have hr : RowO wr (.slice at' l.length ct) tkC l := zap (hI.dn _ List.mem_cons_self).1
  obtain ⟨_, _, h1, hr⟩ := hr
  injection h1 with e1 e2 e3
  subst e1; subst e3
  obtain ⟨gb, o, rfl, hgb, hat⟩ := hr (by omega)
  have q0 := Kp.refl wr n_
  refine KGO ?_
  obtain ⟨T, hT⟩ : ∃ T : Tkn, T = l[i] := ⟨_, rfl⟩
  have hdr : l.drop i = T :: l.drop (i + 1) := by rw [hT]; exact List.drop_eq_getElem_cons hlt
  rw [← hT]
  rw [hdr] at he
  obtain ⟨a_b1, v_b1, k_w1, z_w1, r_w1⟩ := new5 wr 82 ([.int .i64 0, .string ⟨#[]⟩])
  generalize wr.alloc (.cells (List.toArray ([.int .i64 0, .string ⟨#[]⟩])) 82) = w1 at *
  generalize hs_b1 : wr.heap.size = b1 at *
  refine KGO ?_
  refine SVK (tkC T) v_b1 fun w3 v3 k3 => ?_
  have kr3 := zab k_w1 k3 (by omega)
  have I3 := hI.keep kr3
  have a3 := v3.at
  have r3 := Kp.refl w3 n_
  have hsz3 := I3.k.size
  by_cases hS : T = (4, [59])
  ·subst hS
   have he : rowsF ((done ++ [last]).map (·.2)) [] (l.drop (i + 1)) = rowsC l := by
    rw [List.map_append, ← he]; rfl
   refine KGO ?_
   refine RunV.of (bs1Tr _) ?_
   obtain ⟨a_b4, v_b4, k_w4, z_w4, r_w4⟩ := new5 w3 78 ([.slice none 0 0])
   generalize w3.alloc (.cells (List.toArray ([.slice none 0 0])) 78) = w4 at *
   generalize hs_b4 : w3.heap.size = b4 at *
   have I4 := I3.keep k_w4
   refine KGO ?_
   refine tyTr.app1 (⟨none, 0, 0⟩, []) I4.out I4.k.size a_b4 (by rw [List.length_append, List.length_singleton]; omega) (by rw [List.length_append, List.length_singleton]; omega) fun v5 w5 o5 k5 => ?_
   have I5 := I4.next o5 k5
   obtain ⟨a5, c5, rfl⟩ := zad o5
   refine KGO ?_
   exact ⟨(i + 1, _, done ++ [last], (⟨none, 0, 0⟩, []), w5.heap.size), ⟨rfl, rfl, rfl, v_int (by simp), trivial⟩, ⟨I5, hlt, he, by dsimp only; rw [List.length_append, List.length_singleton, List.length_nil]; omega⟩, by dsimp only; omega⟩
  ·have he : rowsF (done.map (·.2)) (last.2 ++ [T]) (l.drop (i + 1)) = rowsC l := by
    rw [← he]; conv => rhs; unfold rowsF
    rw [if_neg hS]
   by_cases h4 : T.1 = 4
   ·have h59 : T.2 ≠ [59] := fun e => hS (by obtain ⟨x, y⟩ := T; simp only at h4 e; rw [h4, e])
    refine KGO ?_
    rw [decide_eq_false (fun e => h59 (zaD.1 (e.trans (show (⟨#[59]⟩ : ByteArray) = str [59] from rfl))))]
    refine KGO ?_
    rcases own_blockK I3.out with ⟨_, h0⟩ | ⟨gO, cap2, cells, hv, hBg, hvk, hnc, hcm, hcl, htk⟩
    ·rw [List.length_append, List.length_singleton] at h0; omega
    injection hv with hv1 hv2 hv3
    subst hv1; subst hv3
    have hnl : (done ++ [last]).length = done.length + 1 := by rw [List.length_append, List.length_singleton]
    have hatO : At w3 gO 0 ((done ++ [last]).flatMap trC) := zcZ I3.out
    have hcl2 : ((done ++ [last]).flatMap trC)[done.length]? = some last.1.v := by
     rw [List.flatMap_append, List.getElem?_append_right (by rw [zbb trC 1 (fun _ => rfl)]; omega), zbb trC 1 (fun _ => rfl), Nat.mul_one, Nat.sub_self]
     rfl
    have hIn := zbj (q := gO) I3.out I3.la (by decide) rfl
    have kdA := (Kp.refl w3 (own_ last.1.v)).drew
    rw [hnl]
    refine Draw.heldEnd (fun u => Kp w3 u (own_ last.1.v)) (fun _ => true) (by simp) (by decide +kernel) (by decide +kernel) kdA ?_
    refine GW ?_
    refine KGO ?_
    rw [show (((done.length + 1 : Nat) : Int) - 1).toNat = done.length by omega]
    have hltO : gO < w3.heap.size := hvk.lt
    refine Held.one (by rfl) (fun u hu => (hu.cell (p := ⟨gO, 0 + done.length, none⟩) hltO hIn).trans (hatO done.length _ hcl2)) ?_
    refine KGO ?_
    have hnb1 : ¬ (last.1.v).ownBlock = some b1 := fun e => by
     obtain ⟨_, _, _, _, h4⟩ := zah hI.la e
     omega
    refine HeldG (tkC T) (by rfl) (by rfl) (fun u hu => (v3.keep hu hnb1).at) (by rfl) ?_
    refine KGO ?_
    refine RunV.of (bs1Tk T _) ?_
    have kb : Kp w3 (w3.drew.alloc (.cells (List.toArray (tkC T)) 82)) n_ := (Kp.refl w3 n_).drew.alloc _
    have hbf := zcP w3.drew 82 (tkC T)
    generalize w3.drew.alloc (.cells (List.toArray (tkC T)) 82) = Wb at *
    generalize w3.drew.heap.size = gB at *
    refine ⟨kb.of_none, ?_⟩
    refine GW ?_
    have hlb := I3.b2
    have hkbs := kb.size
    refine tyTk.app1 T (zai I3.la kb) (Nat.le_trans hlb hkbs) hbf (by omega) (by omega) fun v7 w7 o7 k7 => ?_
    obtain ⟨a7, c7, rfl⟩ := zad o7
    have kall : Kp w3 w7 (own_ last.1.v) := (kb.of_none).trans' k7
    refine ⟨kall, ?_⟩
    refine GW ?_
    refine KGO ?_
    rw [show (((done.length + 1 : Nat) : Int) - 1).toNat = done.length by omega]
    rw [hnl] at hnc
    refine Store.cellK (i := done.length) (hvk.keep kall hIn) (by omega) (by rfl) ⟨rfl, by simp, by simp⟩ fun w8 v8 k8 => ?_
    have o8 := zgM (w := w3) (w' := w8) lenTr (l := done ++ [last]) (k := done.length) (j := 0) (v := .slice a7 (last.2 ++ [T]).length c7) (x := (⟨a7, (last.2 ++ [T]).length, c7⟩, last.2 ++ [T])) (by omega) (by decide) rfl hBg (by rw [hnl]; exact hnc) hcm (by rw [hcl]) htk (by rw [Nat.mul_one, Nat.add_zero]; exact v8)
    have hset : (done ++ [last]).set done.length ((⟨a7, (last.2 ++ [T]).length, c7⟩ : Sl), last.2 ++ [T]) = done ++ [((⟨a7, (last.2 ++ [T]).length, c7⟩ : Sl), last.2 ++ [T])] := by
     rw [List.set_append_right _ _ (Nat.le_refl _), Nat.sub_self]; rfl
    rw [hset] at o8
    have hn2 : (done ++ [((⟨a7, (last.2 ++ [T]).length, c7⟩ : Sl), last.2 ++ [T])]).length = done.length + 1 := by simp
    have I3' := I3
    rw [hnl] at I3' o8
    have I8 := I3'.more (l2 := (⟨a7, (last.2 ++ [T]).length, c7⟩, last.2 ++ [T])) (b := gO) o7 kall k8 rfl (by rw [OwnR, hn2]; exact o8)
    refine KGO ?_
    refine ⟨(i + 1, _, done, ((⟨a7, (last.2 ++ [T]).length, c7⟩ : Sl), last.2 ++ [T]), B2), ⟨rfl, rfl, rfl, v_int (by simp), trivial⟩, ⟨I8, hlt, he, ?_⟩, by dsimp only; omega⟩
    dsimp only
    rw [List.length_append, List.length_singleton]
    omega
   ·refine KGO ?_
    rcases own_blockK I3.out with ⟨_, h0⟩ | ⟨gO, cap2, cells, hv, hBg, hvk, hnc, hcm, hcl, htk⟩
    ·rw [List.length_append, List.length_singleton] at h0; omega
    injection hv with hv1 hv2 hv3
    subst hv1; subst hv3
    have hnl : (done ++ [last]).length = done.length + 1 := by rw [List.length_append, List.length_singleton]
    have hatO : At w3 gO 0 ((done ++ [last]).flatMap trC) := zcZ I3.out
    have hcl2 : ((done ++ [last]).flatMap trC)[done.length]? = some last.1.v := by
     rw [List.flatMap_append, List.getElem?_append_right (by rw [zbb trC 1 (fun _ => rfl)]; omega), zbb trC 1 (fun _ => rfl), Nat.mul_one, Nat.sub_self]
     rfl
    have hIn := zbj (q := gO) I3.out I3.la (by decide) rfl
    have kdA := (Kp.refl w3 (own_ last.1.v)).drew
    rw [hnl]
    refine Draw.heldEnd (fun u => Kp w3 u (own_ last.1.v)) (fun _ => true) (by simp) (by decide +kernel) (by decide +kernel) kdA ?_
    refine GW ?_
    refine KGO ?_
    rw [show (((done.length + 1 : Nat) : Int) - 1).toNat = done.length by omega]
    have hltO : gO < w3.heap.size := hvk.lt
    refine Held.one (by rfl) (fun u hu => (hu.cell (p := ⟨gO, 0 + done.length, none⟩) hltO hIn).trans (hatO done.length _ hcl2)) ?_
    refine KGO ?_
    have hnb1 : ¬ (last.1.v).ownBlock = some b1 := fun e => by
     obtain ⟨_, _, _, _, h4⟩ := zah hI.la e
     omega
    refine HeldG (tkC T) (by rfl) (by rfl) (fun u hu => (v3.keep hu hnb1).at) (by rfl) ?_
    refine KGO ?_
    refine RunV.of (bs1Tk T _) ?_
    have kb : Kp w3 (w3.drew.alloc (.cells (List.toArray (tkC T)) 82)) n_ := (Kp.refl w3 n_).drew.alloc _
    have hbf := zcP w3.drew 82 (tkC T)
    generalize w3.drew.alloc (.cells (List.toArray (tkC T)) 82) = Wb at *
    generalize w3.drew.heap.size = gB at *
    refine ⟨kb.of_none, ?_⟩
    refine GW ?_
    have hlb := I3.b2
    have hkbs := kb.size
    refine tyTk.app1 T (zai I3.la kb) (Nat.le_trans hlb hkbs) hbf (by omega) (by omega) fun v7 w7 o7 k7 => ?_
    obtain ⟨a7, c7, rfl⟩ := zad o7
    have kall : Kp w3 w7 (own_ last.1.v) := (kb.of_none).trans' k7
    refine ⟨kall, ?_⟩
    refine GW ?_
    refine KGO ?_
    rw [show (((done.length + 1 : Nat) : Int) - 1).toNat = done.length by omega]
    rw [hnl] at hnc
    refine Store.cellK (i := done.length) (hvk.keep kall hIn) (by omega) (by rfl) ⟨rfl, by simp, by simp⟩ fun w8 v8 k8 => ?_
    have o8 := zgM (w := w3) (w' := w8) lenTr (l := done ++ [last]) (k := done.length) (j := 0) (v := .slice a7 (last.2 ++ [T]).length c7) (x := (⟨a7, (last.2 ++ [T]).length, c7⟩, last.2 ++ [T])) (by omega) (by decide) rfl hBg (by rw [hnl]; exact hnc) hcm (by rw [hcl]) htk (by rw [Nat.mul_one, Nat.add_zero]; exact v8)
    have hset : (done ++ [last]).set done.length ((⟨a7, (last.2 ++ [T]).length, c7⟩ : Sl), last.2 ++ [T]) = done ++ [((⟨a7, (last.2 ++ [T]).length, c7⟩ : Sl), last.2 ++ [T])] := by
     rw [List.set_append_right _ _ (Nat.le_refl _), Nat.sub_self]; rfl
    rw [hset] at o8
    have hn2 : (done ++ [((⟨a7, (last.2 ++ [T]).length, c7⟩ : Sl), last.2 ++ [T])]).length = done.length + 1 := by simp
    have I3' := I3
    rw [hnl] at I3' o8
    have I8 := I3'.more (l2 := (⟨a7, (last.2 ++ [T]).length, c7⟩, last.2 ++ [T])) (b := gO) o7 kall k8 rfl (by rw [OwnR, hn2]; exact o8)
    refine KGO ?_
    refine ⟨(i + 1, _, done, ((⟨a7, (last.2 ++ [T]).length, c7⟩ : Sl), last.2 ++ [T]), B2), ⟨rfl, rfl, rfl, v_int (by simp), trivial⟩, ⟨I8, hlt, he, ?_⟩, by dsimp only; omega⟩
    dsimp only
    rw [List.length_append, List.length_singleton]
    omega
 ·have hdr : l.drop i = [] := List.drop_eq_nil_of_le (by omega)
  rw [hdr] at he
  refine KGO ?_
  refine ⟨_, rfl, ⟨done ++ [last], zap hI.out, zeK hI.out, by rw [List.map_append, ← he]; rfl, fun x hx => ?_⟩, hI.k⟩
  rcases List.mem_append.1 hx with hx | hx
  ·exact ⟨zap (hI.dn x (List.mem_cons_of_mem _ hx)).1, zeK (hI.dn x (List.mem_cons_of_mem _ hx)).1⟩
  ·obtain rfl : x = last := by simpa using hx
   exact ⟨zap hI.la, zeK hI.la⟩
end
def spC (x : Spt) : List Value := [.string (str x.1), .int .i64 x.2.1, .bool x.2.2]
theorem zcN (a : ByteArray) (z : Int) (w : World) : (Instr.build 135 [(0, .string a), (1, .int .i64 z)].toArray).run Tryz.prog w = .ok (.agg #[.string a, .int .i64 z, .bool false]) w := by
 simp [Instr.build, go_sem, Tryz.runUnderlying135]
theorem zdx (a : ByteArray) (z : Int) (b : Bool) (w : World) : (Instr.build 135 [(0, .string a), (1, .int .i64 z), (2, .bool b)].toArray).run Tryz.prog w = .ok (.agg #[.string a, .int .i64 z, .bool b]) w := by
 simp [Instr.build, go_sem, Tryz.runUnderlying135]
theorem zgD {s : List UInt8} {k : Nat} (h : numC s = some k) : k ≤ 63 := by
 unfold numC at h
 split at h
 ·rename_i h1
  injection h with h
  omega
 ·cases h
section
variable {w : World}
theorem zkl (n : List UInt8) (hE : ErrL w) (hs : n.length ≤ 100000000) : Calls Tryz.prog 113 #[.string (str n)] w fun e w' => e = .returned (.agg (spC (spotC n)).toArray) ∧ Kp w w' n_ := by
 have hz := zae n
 have hsd : spotC n = if 1 < n.length ∧ Lib.hasSuffix n [42] = true then spotN (n.take (n.length - 1)) true else spotN n false := rfl
 refine zaa (args := [.string (str n)]) Tryz.func113 rfl NL ?_; refine GW ?_
 obtain ⟨a_r1, v_r1, k_w1, z_w1, r_w1⟩ := new5 w 135 ([.string ⟨#[]⟩, .int .i64 0, .bool false])
 generalize w.alloc (.cells (List.toArray ([.string ⟨#[]⟩, .int .i64 0, .bool false])) 135) = w1 at *
 generalize hs_r1 : w.heap.size = r1 at *
 refine KGO ?_
 refine RunV.of (zcN (str n) (-1) _) ?_
 refine KGO ?_
 obtain ⟨a_b2, v_b2, k_w2, z_w2, r_w2⟩ := new5 w1 135 ([.string ⟨#[]⟩, .int .i64 0, .bool false])
 generalize w1.alloc (.cells (List.toArray ([.string ⟨#[]⟩, .int .i64 0, .bool false])) 135) = w2 at *
 generalize hs_b2 : w1.heap.size = b2 at *
 refine KGO ?_
 refine SVK (spC (n, -1, false)) v_b2 fun w3 v3 k3 => ?_
 have vr3 := (v_r1.keep0 k_w2).keep k3 (fun e => by have e : r1 = b2 := e; omega)
 have K3 := zab (k_w1.trans0 k_w2) k3 (by omega)
 have a3 : At w3 b2 0 [.string (str n), .int .i64 (-1), .bool false] := v3.at
 have q3 := Kp.refl w3 n_
 by_cases hn : 1 < n.length
 ·refine KGO ?_
  refine CallS.of (Tryz.call145 _ _) (zgs (str n) ⟨#[42]⟩ w3 (by omega)) ?_
  rintro e w4 ⟨rfl, rfl⟩
  rw [L_str, show L ⟨#[42]⟩ = [42] from rfl]
  cases hx : Lib.hasSuffix n [42]
  ·rw [hsd, if_neg (by rw [hx]; simp)]
   refine RT ?_
   refine KGO ?_
   have hl := zdk (str n) 42
   rw [L_str] at hl
   have hMz := zae n
   refine CallS.of (Tryz.call146 _ _) (zaZ (str n) 42 w3 (by rw [zae]; omega)) ?_
   rintro e w5 ⟨rfl, rfl⟩
   rw [hl]
   have hsp : spotN n false = match lastC 42 n with | some i => (match numC ((n).drop (i + 1)) with | some k => (((n).take i, (k : Int), false) : Spt) | none => (n, -1, false)) | none => (n, -1, false) := rfl
   rcases lastC_at 42 n with ⟨h1, _⟩ | ⟨i, h1, h2, _, _⟩
   ·rw [h1] at hsp ⊢
    dsimp only at hsp ⊢
    rw [hsp]
    refine RT ?_
    refine KGO ?_
    refine SVK (spC ((n, -1, false) : Spt)) vr3 fun wz vz kz => ?_
    have az := vz.at
    have qz := Kp.refl wz n_
    have Kz := zab K3 kz (by omega)
    refine KGO ?_
    refine GW ?_
    exact ⟨rfl, Kz⟩
   ·rw [h1] at hsp ⊢
    dsimp only at hsp ⊢
    refine RT ?_
    refine KGO ?_
    rw [show ((i : Nat) : Int) + 1 = ((i + 1 : Nat) : Int) from rfl]
    refine KGO ?_
    rw [zav]
    have hdl : ((n).drop (i + 1)).length ≤ 100000000 := by rw [List.length_drop]; omega
    refine CallS.of (Tryz.call147 _ _) (zfd (w := w3) ((n).drop (i + 1)) (hE.keep K3) hdl) ?_
    rintro e w8 ⟨rfl, k8⟩
    have K8 := (K3).trans0 k8
    have v8 := (v3).keep0 k8
    have vr8 := (vr3).keep0 k8
    cases hk : numC ((n).drop (i + 1)) with
    | none =>
     rw [hk] at hsp
     dsimp only at hsp
     rw [hsp]
     unfold numV
     have a8 : At w8 b2 0 [.string (str n), .int .i64 (-1), .bool false] := v8.at
     have q8 := Kp.refl w8 n_
     refine RT ?_
     refine KGO ?_
     refine SVK (spC ((n, -1, false) : Spt)) vr8 fun wz vz kz => ?_
     have az := vz.at
     have qz := Kp.refl wz n_
     have Kz := zab K8 kz (by omega)
     refine KGO ?_
     refine GW ?_
     exact ⟨rfl, Kz⟩
    | some k =>
     rw [hk] at hsp
     dsimp only at hsp
     rw [hsp]
     unfold numV
     have hk63 := zgD hk
     have a8 : At w8 b2 0 [.string (str n), .int .i64 (-1), .bool false] := v8.at
     have q8 := Kp.refl w8 n_
     refine RT ?_
     refine KGO ?_
     rw [zaV]
     refine Store.cellK (i := 0) v8 (by simp [spC]) (by rfl) ⟨rfl, by simp, by simp⟩ fun wa va ka => ?_
     refine KGO ?_
     refine Store.cellK (i := 1) va (by simp [spC]) (by rfl) ⟨rfl, by simp, by simp⟩ fun wb vb kb => ?_
     have vrb := (vr8.keep ka (fun e => by have e : r1 = b2 := e; omega)).keep kb (fun e => by have e : r1 = b2 := e; omega)
     have Kb := zab (zab K8 ka (by omega)) kb (by omega)
     have ab : At wb b2 0 [.string (str ((n).take i)), .int .i64 (k : Nat), .bool false] := vb.at
     have qb := Kp.refl wb n_
     clear a8 q8
     refine KGO ?_
     refine Store.varK (spC (((n).take i, (k : Int), false) : Spt)) vrb (by rfl) rfl (zaB (by rfl)) fun wz vz kz => ?_
     have az := vz.at
     have qz := Kp.refl wz n_
     have Kz := zab Kb kz (by omega)
     refine KGO ?_
     refine GW ?_
     exact ⟨rfl, Kz⟩
  ·rw [hsd, if_pos ⟨hn, hx⟩]
   refine RT ?_
   refine KGO ?_
   rw [show (((str n).size : Nat) : Int) - 1 = ((n.length - 1 : Nat) : Int) by rw [hz]; omega]
   refine KGO ?_
   rw [zaV]
   obtain ⟨m, hm⟩ : ∃ m, m = n.take (n.length - 1) := ⟨_, rfl⟩
   have hml : m.length ≤ 100000000 := by rw [hm, List.length_take]; omega
   rw [← hm]
   refine Store.cellK (i := 0) v3 (by simp [spC]) (by rfl) ⟨rfl, by simp, by simp⟩ fun w6 v6 k6 => ?_
   refine KGO ?_
   refine Store.cellK (i := 2) v6 (by simp [spC]) (by rfl) ⟨rfl, by simp, by simp⟩ fun w7 v7 k7 => ?_
   have v7 : VarK w7 b2 135 (spC (m, -1, true)) := v7
   have vr7 := (vr3.keep k6 (fun e => by have e : r1 = b2 := e; omega)).keep k7 (fun e => by have e : r1 = b2 := e; omega)
   have K7 := zab (zab K3 k6 (by omega)) k7 (by omega)
   have a7 : At w7 b2 0 [.string (str m), .int .i64 (-1), .bool true] := v7.at
   have q7 := Kp.refl w7 n_
   clear a3 q3
   refine KGO ?_
   have hl := zdk (str m) 42
   rw [L_str] at hl
   have hMz := zae m
   refine CallS.of (Tryz.call146 _ _) (zaZ (str m) 42 w7 (by rw [zae]; omega)) ?_
   rintro e w5 ⟨rfl, rfl⟩
   rw [hl]
   have hsp : spotN m true = match lastC 42 m with | some i => (match numC ((m).drop (i + 1)) with | some k => (((m).take i, (k : Int), true) : Spt) | none => (m, -1, true)) | none => (m, -1, true) := rfl
   rcases lastC_at 42 m with ⟨h1, _⟩ | ⟨i, h1, h2, _, _⟩
   ·rw [h1] at hsp ⊢
    dsimp only at hsp ⊢
    rw [hsp]
    refine RT ?_
    refine KGO ?_
    refine SVK (spC ((m, -1, true) : Spt)) vr7 fun wz vz kz => ?_
    have az := vz.at
    have qz := Kp.refl wz n_
    have Kz := zab K7 kz (by omega)
    refine KGO ?_
    refine GW ?_
    exact ⟨rfl, Kz⟩
   ·rw [h1] at hsp ⊢
    dsimp only at hsp ⊢
    refine RT ?_
    refine KGO ?_
    rw [show ((i : Nat) : Int) + 1 = ((i + 1 : Nat) : Int) from rfl]
    refine KGO ?_
    rw [zav]
    have hdl : ((m).drop (i + 1)).length ≤ 100000000 := by rw [List.length_drop]; omega
    refine CallS.of (Tryz.call147 _ _) (zfd (w := w7) ((m).drop (i + 1)) (hE.keep K7) hdl) ?_
    rintro e w8 ⟨rfl, k8⟩
    have K8 := (K7).trans0 k8
    have v8 := (v7).keep0 k8
    have vr8 := (vr7).keep0 k8
    cases hk : numC ((m).drop (i + 1)) with
    | none =>
     rw [hk] at hsp
     dsimp only at hsp
     rw [hsp]
     unfold numV
     have a8 : At w8 b2 0 [.string (str m), .int .i64 (-1), .bool true] := v8.at
     have q8 := Kp.refl w8 n_
     refine RT ?_
     refine KGO ?_
     refine SVK (spC ((m, -1, true) : Spt)) vr8 fun wz vz kz => ?_
     have az := vz.at
     have qz := Kp.refl wz n_
     have Kz := zab K8 kz (by omega)
     refine KGO ?_
     refine GW ?_
     exact ⟨rfl, Kz⟩
    | some k =>
     rw [hk] at hsp
     dsimp only at hsp
     rw [hsp]
     unfold numV
     have hk63 := zgD hk
     have a8 : At w8 b2 0 [.string (str m), .int .i64 (-1), .bool true] := v8.at
     have q8 := Kp.refl w8 n_
     refine RT ?_
     refine KGO ?_
     rw [zaV]
     refine Store.cellK (i := 0) v8 (by simp [spC]) (by rfl) ⟨rfl, by simp, by simp⟩ fun wa va ka => ?_
     refine KGO ?_
     refine Store.cellK (i := 1) va (by simp [spC]) (by rfl) ⟨rfl, by simp, by simp⟩ fun wb vb kb => ?_
     have vrb := (vr8.keep ka (fun e => by have e : r1 = b2 := e; omega)).keep kb (fun e => by have e : r1 = b2 := e; omega)
     have Kb := zab (zab K8 ka (by omega)) kb (by omega)
     have ab : At wb b2 0 [.string (str ((m).take i)), .int .i64 (k : Nat), .bool true] := vb.at
     have qb := Kp.refl wb n_
     clear a8 q8
     refine KGO ?_
     refine Store.varK (spC (((m).take i, (k : Int), true) : Spt)) vrb (by rfl) rfl (zaB (by rfl)) fun wz vz kz => ?_
     have az := vz.at
     have qz := Kp.refl wz n_
     have Kz := zab Kb kz (by omega)
     refine KGO ?_
     refine GW ?_
     exact ⟨rfl, Kz⟩
 ·rw [hsd, if_neg (fun e => hn e.1)]
  refine KGO ?_
  have hl := zdk (str n) 42
  rw [L_str] at hl
  have hMz := zae n
  refine CallS.of (Tryz.call146 _ _) (zaZ (str n) 42 w3 (by rw [zae]; omega)) ?_
  rintro e w5 ⟨rfl, rfl⟩
  rw [hl]
  have hsp : spotN n false = match lastC 42 n with | some i => (match numC ((n).drop (i + 1)) with | some k => (((n).take i, (k : Int), false) : Spt) | none => (n, -1, false)) | none => (n, -1, false) := rfl
  rcases lastC_at 42 n with ⟨h1, _⟩ | ⟨i, h1, h2, _, _⟩
  ·rw [h1] at hsp ⊢
   dsimp only at hsp ⊢
   rw [hsp]
   refine RT ?_
   refine KGO ?_
   refine SVK (spC ((n, -1, false) : Spt)) vr3 fun wz vz kz => ?_
   have az := vz.at
   have qz := Kp.refl wz n_
   have Kz := zab K3 kz (by omega)
   refine KGO ?_
   refine GW ?_
   exact ⟨rfl, Kz⟩
  ·rw [h1] at hsp ⊢
   dsimp only at hsp ⊢
   refine RT ?_
   refine KGO ?_
   rw [show ((i : Nat) : Int) + 1 = ((i + 1 : Nat) : Int) from rfl]
   refine KGO ?_
   rw [zav]
   have hdl : ((n).drop (i + 1)).length ≤ 100000000 := by rw [List.length_drop]; omega
   refine CallS.of (Tryz.call147 _ _) (zfd (w := w3) ((n).drop (i + 1)) (hE.keep K3) hdl) ?_
   rintro e w8 ⟨rfl, k8⟩
   have K8 := (K3).trans0 k8
   have v8 := (v3).keep0 k8
   have vr8 := (vr3).keep0 k8
   cases hk : numC ((n).drop (i + 1)) with
   | none =>
    rw [hk] at hsp
    dsimp only at hsp
    rw [hsp]
    unfold numV
    have a8 : At w8 b2 0 [.string (str n), .int .i64 (-1), .bool false] := v8.at
    have q8 := Kp.refl w8 n_
    refine RT ?_
    refine KGO ?_
    refine SVK (spC ((n, -1, false) : Spt)) vr8 fun wz vz kz => ?_
    have az := vz.at
    have qz := Kp.refl wz n_
    have Kz := zab K8 kz (by omega)
    refine KGO ?_
    refine GW ?_
    exact ⟨rfl, Kz⟩
   | some k =>
    rw [hk] at hsp
    dsimp only at hsp
    rw [hsp]
    unfold numV
    have hk63 := zgD hk
    have a8 : At w8 b2 0 [.string (str n), .int .i64 (-1), .bool false] := v8.at
    have q8 := Kp.refl w8 n_
    refine RT ?_
    refine KGO ?_
    rw [zaV]
    refine Store.cellK (i := 0) v8 (by simp [spC]) (by rfl) ⟨rfl, by simp, by simp⟩ fun wa va ka => ?_
    refine KGO ?_
    refine Store.cellK (i := 1) va (by simp [spC]) (by rfl) ⟨rfl, by simp, by simp⟩ fun wb vb kb => ?_
    have vrb := (vr8.keep ka (fun e => by have e : r1 = b2 := e; omega)).keep kb (fun e => by have e : r1 = b2 := e; omega)
    have Kb := zab (zab K8 ka (by omega)) kb (by omega)
    have ab : At wb b2 0 [.string (str ((n).take i)), .int .i64 (k : Nat), .bool false] := vb.at
    have qb := Kp.refl wb n_
    clear a8 q8
    refine KGO ?_
    refine Store.varK (spC (((n).take i, (k : Int), false) : Spt)) vrb (by rfl) rfl (zaB (by rfl)) fun wz vz kz => ?_
    have az := vz.at
    have qz := Kp.refl wz n_
    have Kz := zab Kb kz (by omega)
    refine KGO ?_
    refine GW ?_
    exact ⟨rfl, Kz⟩
end
section
variable {w : World}
theorem zgP (s : List UInt8) (hm : MaxL w) (hs : s.length ≤ 100000000) : Calls Tryz.prog 149 #[.string (str s)] w fun e w' => e = .returned (.tuple #[.string (str (splitC s).1), .string (str (splitC s).2)]) ∧ Kp w w' n_ := by
 have hz := zae s
 have hsd : splitC s = if (Lib.cut s [39]).2.2 = true ∧ (Lib.cut (Lib.cut s [39]).2.1 [39]).2.2 = true then ((Lib.cut s [39]).1, (Lib.cut (Lib.cut s [39]).2.1 [39]).2.1) else ([], s) := rfl
 have hc1 := zdK s [39]
 refine zaa (args := [.string (str s)]) Tryz.func149 rfl NL ?_; refine GW ?_
 refine CallS.of (Tryz.call66 _ _) (s_cut (str s) ⟨#[39]⟩ w hm (by rw [zae]; omega)) ?_
 rintro e w1 ⟨rfl, k1⟩
 rw [L_str, show L ⟨#[39]⟩ = [39] from rfl]
 generalize Lib.cut s [39] = C at *
 obtain ⟨C1, C2, C3⟩ := C
 dsimp only at hsd hc1 ⊢
 refine RT ?_
 refine KGO ?_
 refine CallS.of (Tryz.call66 _ _) (s_cut (str C2) ⟨#[39]⟩ w1 (hm.keep k1) (by rw [zae]; omega)) ?_
 rintro e w2 ⟨rfl, k2⟩
 rw [L_str, show L ⟨#[39]⟩ = [39] from rfl]
 generalize Lib.cut C2 [39] = D at *
 obtain ⟨D1, D2, D3⟩ := D
 dsimp only at hsd ⊢
 rw [hsd]
 have k := k1.trans0 k2
 refine RT ?_
 cases C3
 ·rw [if_neg (by simp)]
  refine KGO ?_
  exact ⟨rfl, k⟩
 ·cases D3
  ·rw [if_neg (by simp)]
   refine KGO ?_
   exact ⟨rfl, k⟩
  ·rw [if_pos ⟨rfl, rfl⟩]
   refine KGO ?_
   exact ⟨rfl, k⟩
theorem zeE (n s : List UInt8) (hT : Tabs w) (hn : n.length ≤ 100000000) (hs : s.length ≤ 100000000) : Calls Tryz.prog 150 #[.string (str n), .string (str s)] w fun e w' => e = .returned (.string (str (meantC n s))) ∧ Kp w w' n_ := by
 unfold meantC
 cases n with
 | nil =>
  rw [if_pos rfl]
  refine zaa (args := [.string (str []), .string (str s)]) Tryz.func150 rfl NL ?_; refine GW ?_
  rw [show decide (str [] = ⟨#[]⟩) = true from rfl]
  refine KGO ?_
  refine CallS.of (Tryz.call171 _ _) (zfL (w := w) (str s) hT (by rw [zae]; omega)) ?_
  rintro e w1 ⟨rfl, k1⟩
  rw [L_str]
  refine RT ?_
  exact ⟨rfl, k1⟩
 | cons c r =>
  rw [if_neg (by simp)]
  refine zaa (args := [.string (str (c :: r)), .string (str s)]) Tryz.func150 rfl NL ?_; refine GW ?_
  rw [decide_eq_false zbQ]
  refine KGO ?_
  refine CallS.of (Tryz.call172 _ _) (ziM (w := w) (str (c :: r)) (str s) hT (by rw [zae]; exact hn) (by rw [zae]; omega)) ?_
  rintro e w1 ⟨rfl, k1⟩
  rw [L_str, L_str]
  refine RT ?_
  refine KGO ?_
  exact ⟨rfl, k1⟩
theorem zba : ∀ (k : Nat) (s : List UInt8), s.length ≤ k → (openC s).length ≤ s.length := by
 intro k
 induction k with
 | zero => intro s h; rw [List.eq_nil_of_length_eq_zero (Nat.le_zero.1 h)]; simp [openC]
 | succ k ih =>
  intro s h
  match s with
  | [] => simp [openC]
  | [a] => simp [openC]
  | [a, b] => simp [openC]
  | c :: a :: b :: r =>
   unfold openC
   simp only [List.length_cons] at h
   have h1 := ih r (by omega)
   have h2 := ih (a :: b :: r) (by simp only [List.length_cons]; omega)
   simp only [List.length_cons] at h2
   split
   ·split <;> simp only [List.length_cons] <;> omega
   ·simp only [List.length_cons]; omega
theorem zdC {c : UInt8} {r : List UInt8} (h : c ≠ 37 ∨ r.length < 2) : openC (c :: r) = c :: openC r := by
 match r with
 | [] => simp [openC]
 | [a] => simp [openC]
 | a :: b :: r =>
  have hc : c ≠ 37 := by
   rcases h with h | h
   ·exact h
   ·simp only [List.length_cons] at h; omega
  conv => lhs; unfold openC
  rw [if_neg hc]
theorem zeC (s : List UInt8) (hs : s.length ≤ 1000000000) (w : World) : Calls Tryz.prog 151 #[.string (str s)] w fun e w' => e = .returned (.string (str (openC s))) ∧ Kp w w' n_ := by
 have hz := zae s
 refine zaa (args := [.string (str s)]) Tryz.func151 rfl NL ?_; refine GW ?_
 have hb0 := zgi w w.heap.size (Nat.le_refl _)
 have K0 : Kp w (w.alloc (.cells #[.pointer none, .slice none 0 0] 122)) n_ := (Kp.refl _ _).alloc _
 generalize w.alloc (.cells #[.pointer none, .slice none 0 0] 122) = w0 at *
 refine Loop.intro (ι := Nat × List UInt8) (fun i => [(0, .string (str s)), (3, .pointer (some ⟨w.heap.size, 0, none⟩)), (4, .int .i64 (i.1 : Nat))])
  (fun i wr => Kp w wr n_ ∧ i.1 ≤ s.length ∧ Bld wr w.heap.size w.heap.size i.2 ∧ i.2 ++ openC (s.drop i.1) = openC s ∧ i.2.length ≤ i.1) (fun i => s.length - i.1) (0, []) ⟨rfl, rfl, rfl, trivial⟩
  ⟨K0, Nat.zero_le _, hb0, rfl, Nat.le_refl _⟩ ?_
 rintro ⟨i, D⟩ g wr ⟨hK, hi, hb, he, hn⟩
 dsimp only at hi hb he hn ⊢
 refine GW ?_
 by_cases hlt : i < s.length
 ·refine KGO ?_
  rw [zbk hlt]
  have hdr := List.drop_eq_getElem_cons hlt
  obtain ⟨c, hc⟩ : ∃ c, c = s[i] := ⟨_, rfl⟩
  rw [← hc] at hdr ⊢
  rw [hdr] at he
  by_cases c1 : c = 37
  ·by_cases h2 : i + 2 < s.length
   ·obtain ⟨a, ha⟩ : ∃ a, a = s[i + 1] := ⟨_, rfl⟩
    obtain ⟨b, hb'⟩ : ∃ b, b = s[i + 2] := ⟨_, rfl⟩
    have hd2 : s.drop (i + 1) = a :: b :: s.drop (i + 3) := by rw [ha, hb', ← List.drop_eq_getElem_cons h2, ← List.drop_eq_getElem_cons]
    have hex : (s.take (i + 3)).drop (i + 1) = [a, b] := by
     rw [List.drop_take, show i + 3 - (i + 1) = 2 by omega, hd2]; rfl
    subst c1
    refine KGO ?_
    rw [show ((i : Nat) : Int) + 1 = ((i + 1 : Nat) : Int) from rfl, show ((i : Nat) : Int) + 3 = ((i + 3 : Nat) : Int) from rfl]
    refine Cut.both (l := i + 1) (h := i + 3) (by omega) (by omega) ?_
    refine GW ?_
    refine KGO ?_
    rw [zbc, hex]
    refine CallS.of (Tryz.call173 _ _) (zkv a b wr) ?_
    rintro e w4 ⟨rfl, k4⟩
    have K4 := hK.trans0 k4
    have hb4 := zfQ hb k4
    have hop : openC (37 :: s.drop (i + 1)) = match unhexC a b with | some x => x :: openC (s.drop (i + 3)) | none => 37 :: openC (s.drop (i + 1)) := by
     rw [hd2]; conv => lhs; unfold openC
     rw [if_pos rfl]
     cases unhexC a b <;> rfl
    rw [hop] at he
    cases hu : unhexC a b with
    | none =>
     rw [hu] at he
     dsimp only at he
     unfold unV
     refine RT ?_
     refine KGO ?_
     rw [zbk hlt, ← hc]
     refine CallS.of (Tryz.call167 _ _) (zbT (B := w.heap.size) 37 w4 hb4 (by omega) (K4).size) ?_
     rintro e w5 ⟨rfl, hb5, hbe, _⟩
     refine RT ?_
     refine KGO ?_
     exact ⟨(i + 1, D ++ [37]), ⟨rfl, rfl, v_int (by simp), trivial⟩, ⟨(K4).below' hbe (Nat.le_refl _), hlt, hb5, by dsimp only; rw [List.append_assoc]; exact he, by dsimp only; rw [List.length_append, List.length_singleton]; omega⟩, by dsimp only; omega⟩
    | some x =>
     rw [hu] at he
     dsimp only at he
     unfold unV
     refine RT ?_
     refine KGO ?_
     refine CallS.of (Tryz.call109 _ _) (zbr (B := w.heap.size) (str [x]) w4 hb4 (by rw [zae, List.length_singleton]; omega) K4.size) ?_
     rintro e w5 ⟨rfl, hb5, hbe, _⟩
     refine RT ?_
     rw [L_str] at hb5
     refine KGO ?_
     exact ⟨(i + 3, D ++ [x]), ⟨rfl, rfl, v_int (by simp; try omega), trivial⟩, ⟨K4.below' hbe (Nat.le_refl _), by dsimp only; omega, hb5, by dsimp only; rw [List.append_assoc]; exact he, by dsimp only; rw [List.length_append, List.length_singleton]; omega⟩, by dsimp only; omega⟩
   ·rw [zdC (.inr (by rw [List.length_drop]; omega))] at he
    subst c1
    refine KGO ?_
    rw [zbk hlt, ← hc]
    refine CallS.of (Tryz.call167 _ _) (zbT (B := w.heap.size) 37 wr hb (by omega) (hK).size) ?_
    rintro e w5 ⟨rfl, hb5, hbe, _⟩
    refine RT ?_
    refine KGO ?_
    exact ⟨(i + 1, D ++ [37]), ⟨rfl, rfl, v_int (by simp), trivial⟩, ⟨(hK).below' hbe (Nat.le_refl _), hlt, hb5, by dsimp only; rw [List.append_assoc]; exact he, by dsimp only; rw [List.length_append, List.length_singleton]; omega⟩, by dsimp only; omega⟩
  ·have n1 : ¬ (c.toNat : Int) = 37 := zaL c1
   rw [zdC (.inl c1)] at he
   refine KGO ?_
   rw [zbk hlt, ← hc]
   refine CallS.of (Tryz.call167 _ _) (zbT (B := w.heap.size) c wr hb (by omega) (hK).size) ?_
   rintro e w5 ⟨rfl, hb5, hbe, _⟩
   refine RT ?_
   refine KGO ?_
   exact ⟨(i + 1, D ++ [c]), ⟨rfl, rfl, v_int (by simp), trivial⟩, ⟨(hK).below' hbe (Nat.le_refl _), hlt, hb5, by dsimp only; rw [List.append_assoc]; exact he, by dsimp only; rw [List.length_append, List.length_singleton]; omega⟩, by dsimp only; omega⟩
 ·have hdr : s.drop i = [] := List.drop_eq_nil_of_le (by omega)
  rw [hdr, show openC [] = [] from rfl, List.append_nil] at he
  refine KGO ?_
  refine CallS.of (Tryz.call110 _ _) (zcO wr hb hK.size) ?_
  rintro e w1 ⟨rfl, hb1, hbe, _⟩
  refine RT ?_
  rw [he]
  exact ⟨rfl, hK.below' hbe (Nat.le_refl _)⟩
end
end Go.Proofs.YtmjeacpoobbjjaaGreatDoor
