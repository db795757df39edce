/- Helper text of this claim: lemmas and contracts that the proved statement rests on; no conditions of its own. -/
import Derived.Shelf.Strings.Builder2
import Derived.Test.YtcplagfblmemhaaGreatDoorGKit11
namespace Go.Proofs.YtcplagfblmemhaaGreatDoor
set_option linter.unusedVariables false
set_option maxHeartbeats 8000000
open Go.Shelf Go.RowKit Go.Pw Go.Vc Go.Cs Go.Lib Go.Cd Go.Cx
set_option linter.unusedVariables false
set_option maxRecDepth 100000
theorem bs1Cl (s : Sl) (w : World) : (Instr.buildSlice 76 1 [(0, .slice s.a s.n s.c)].toArray).run Tryz.prog w = .ok (.slice (some ⟨w.heap.size, 0, none⟩) 1 1) (w.alloc (.cells (List.toArray (shC s)) 53)) := by
 simp [Instr.buildSlice, go_sem, Tryz.runUnderlying76]
theorem zae {w : World} {B s n b : Nat} {e T : TypeId} {v : Value} {xs cs : List Value} (h : w.ownsRow B e s v n xs) (hv : VarK w b T cs) (hne : e ≠ T) : v.ownBlock ≠ some b := zgO h fun cs' T' f' ht => by
 have h' : w.heap[b]? = some (.cells cs.toArray T) := hv
 rw [h'] at ht; injection ht with ht; injection ht with h1 h2 h3; subst h2; exact fun e => hne e.symm
theorem zbK {w : World} {B B' s s' n n' q : Nat} {e e' : TypeId} {v v' : Value} {xs xs' : List Value} (h : w.ownsRow B e s v n xs) (h' : w.ownsRow B' e' s' v' n' xs') (hne : e ≠ e') (hq : v.ownBlock = some q) (hq' : v'.ownBlock = some q) : False := by
 rcases own_blockK h with ⟨rfl, _⟩ | ⟨g, cap, cells, rfl, hB, hv, _⟩
 ·cases hq
 ·have e1 : g = q := by simpa [Value.ownBlock] using hq
  subst e1
  exact zae h' hv (fun e => hne e.symm) hq'
theorem zqe {w w' : World} {B b : Nat} {v : Sl} {hs : List Sl} {k : Bk} (h : BkAt w B b v hs k) (kk : Kp w w' (fun q => q = b ∨ v.v.ownBlock = some q)) :
  ∀ i (h1 : i < hs.length), w'.ownsRow B 66 3 hs[i].v (k.notes[i]'(by have := h.hl; omega)).length ((k.notes[i]'(by have := h.hl; omega)).flatMap chC) := fun i h1 =>
 zad (h.row i h1) kk fun q hq e => by
  rcases e with rfl | e
  ·exact zae (h.row i h1) h.var (by decide) hq
  ·exact zbK (h.row i h1) h.own (by decide) hq e
section
variable {w : World}
theorem zcg {B b : Nat} {v : Sl} {hs : List Sl} {k : Bk} (h : BkAt w B b v hs k) (hB : B ≤ w.heap.size) (st : Int) (hst : st ≤ 9223372036854775807) (hst0 : -9223372036854775808 ≤ st) (l : List Chg) {vl : Sl} (hv : RowC w vl.v l) (hll : l.length ≤ 1000000) :
  Calls Tryz.prog 13 #[.pointer (some ⟨b, 0, none⟩), .int .i64 st, vl.v] w fun e w' => e = .returned (.int .i64 (noteA k st l).1) ∧ (∃ v' hs', BkAt w' B b v' hs' (noteA k st l).2) ∧ Kp w w' (fun q => q = b ∨ v.v.ownBlock = some q) := by
 have hv0 := hv
 have hgood := zkl (l := l) h.good hst
 have hn := zcc h.own
 have g := h.good
 have g1 := g.ns; have g2 := g.s0; have g3 := g.s1; have g4 := g.nk; have g5 := g.k1; have g6 := g.k0
 obtain ⟨a, n, c⟩ := v
 obtain rfl : n = hs.length := hn
 have hl := h.hl
 have ha : At w b 0 [.int .i64 k.state, .int .i64 k.kept, .slice a hs.length c] := h.var.at
 obtain ⟨la, lcap, hle, hlr⟩ := hv
 obtain ⟨la', ln, lc⟩ := vl
 injection hle with e1 e2 e3
 subst e1; subst e2; subst e3
 have q := Kp.refl w n_
 have kb : Kp w w (fun q => q = b ∨ Value.ownBlock (.slice a hs.length c) = some q) := Kp.refl _ _
 refine zaa (args := [.pointer (some ⟨b, 0, none⟩), .int .i64 st, .slice la' l.length lc]) Tryz.func13 rfl NL ?_; refine GW ?_
 unfold noteA at hgood ⊢
 by_cases h1 : k.state = 9223372036854775807
 ·rw [if_pos (.inl h1)]
  refine KGO ?_
  exact ⟨rfl, ⟨_, _, h⟩, kb⟩
 by_cases h2 : st = k.state + 1
 rotate_left
 ·rw [if_pos (.inr h2)]
  refine KGO ?_
  exact ⟨rfl, ⟨_, _, h⟩, kb⟩
 rw [if_neg (fun e => e.elim h1 (fun e => e h2))] at hgood ⊢
 by_cases h3 : 65536 < l.length
 ·rw [if_pos (.inl h3)]
  refine KGO ?_
  exact ⟨rfl, ⟨_, _, h⟩, kb⟩
 refine KGO ?_
 refine CallS.of (Tryz.call25 _ _) (znx l 26 (fun c => !fineA c) hv0 hll (fun _ _ => rfl) (fun x _ w' _ => zke x)) ?_
 rintro e w1 ⟨rfl, k1⟩
 refine RT ?_
 have hx1 := h.keep0 k1
 cases h4 : l.any fun c => !fineA c with
 | true =>
  rw [if_pos (.inr rfl)]
  refine KGO ?_
  exact ⟨rfl, ⟨_, _, hx1⟩, k1.of_none⟩
 | false =>
  rw [h4] at hgood
  rw [if_neg (fun e => e.elim h3 (fun e => by cases e))] at hgood ⊢
  refine KGO ?_
  have hv1 := hv0.keep k1
  have ob1 : Value.ownBlock (.slice a hs.length c) ≠ some b := zae hx1.own hx1.var (by decide)
  have hS : ∀ u, (Kp w1 u (fun q => own_ (.slice a hs.length c) q ∨ q = b) ∧ u.cell? ⟨b, 2, none⟩ = some (.slice a hs.length c)) → u.cell? ⟨b, 2, none⟩ = some (.slice a hs.length c) := fun u hu => hu.2
  have c1 : w1.cell? ⟨b, 2, none⟩ = some (.slice a hs.length c) := hx1.var.at 2 _ rfl
  have hbl := hx1.var.lt
  refine Draw.heldEnd (fun u => Kp w1 u (fun q => own_ (.slice a hs.length c) q ∨ q = b) ∧ u.cell? ⟨b, 2, none⟩ = some (.slice a hs.length c)) (fun _ => true) (by simp) (by decide +kernel) (by decide +kernel) ⟨(Kp.refl _ _).drew, c1⟩ ?_
  refine KGO ?_
  refine Held.one (by rfl) (fun u hu => hu.2) ?_
  refine KGO ?_
  have kd := (Kp.refl w1 n_).drew
  have hv2 := hv1.keep kd
  refine CallS.of (Tryz.call28 _ _) (zqM l hv2 hll) ?_
  rintro e w2 ⟨v2, rfl, o2, k2⟩
  obtain ⟨a2, c2, rfl⟩ := zac o2
  refine RT ?_
  have K2 : Kp w1 w2 n_ := kd.trans0 k2
  refine ⟨⟨K2.of_none, (zao c1 K2)⟩, ?_⟩
  refine GW ?_
  have hx2 := hx1.keep0 K2
  refine RunV.of (bs1Cl ⟨a2, l.length, c2⟩ _) ?_
  have k3 : Kp w2 (w2.alloc (.cells (List.toArray (shC ⟨a2, l.length, c2⟩)) 53)) n_ := (Kp.refl _ _).alloc _
  have h3' := zaq w2 53 (shC ⟨a2, l.length, c2⟩)
  have o3 := zab o2 k3
  generalize w2.alloc (.cells (List.toArray (shC ⟨a2, l.length, c2⟩)) 53) = w3 at *
  generalize w2.heap.size = g3' at *
  have K3 := K2.trans0 k3
  have hx3 := hx2.keep0 k3
  refine ⟨⟨K3.of_none, zao c1 K3⟩, ?_⟩
  refine GW ?_
  have hsz : hs.length ≤ 256 := by omega
  have hB3 : B ≤ w3.heap.size := Nat.le_trans hB (Nat.le_trans k1.size K3.size)
  refine tyCl.app1 (⟨a2, l.length, c2⟩ : Sl) hx3.own hB3 h3' (by omega) (by omega) fun v4 w4 o4 k4 => ?_
  have e4 : (hs ++ [(⟨a2, l.length, c2⟩ : Sl)]).length = hs.length + 1 := by simp
  unfold OwnR at o4
  rw [e4] at o4
  obtain ⟨a4, c4, rfl⟩ := zac o4
  have v4 := hx3.var.keep k4 (fun e => ob1 e)
  refine ⟨⟨(K3.of_none).trans' (k4.mono fun q _ e => .inl e), v4.at 2 _ rfl⟩, ?_⟩
  refine GW ?_
  refine Store.cellK (i := 0) v4 (by simp) (by rfl) ⟨rfl, by simp, by simp⟩ fun w5 v5 k5 => ?_
  refine ⟨⟨((K3.of_none).trans' (k4.mono fun q _ e => .inl e)).trans' (k5.mono fun q _ e => .inr e), v5.at 2 _ rfl⟩, ?_⟩
  refine GW ?_
  refine Store.cellK (i := 2) v5 (by simp) (by rfl) ⟨rfl, by simp, by simp⟩ fun w6 v6 k6 => ?_
  refine GW ?_
  have k56 := k5.trans' k6
  have K36 : Kp w3 w6 (fun q => q = b ∨ Value.ownBlock (.slice a hs.length c) = some q) := (k4.mono fun q _ e => .inr e).trans' (k56.mono fun q _ e => .inl e)
  have ob4 : Value.ownBlock (.slice a4 (hs.length + 1) c4) ≠ some b := zae o4 v4 (by decide)
  have o6 := zad o4 k56 (fun q hq e => ob4 (by have e : q = b := e; rw [← e]; exact hq))
  have r6 := zqe hx3 K36
  have l6 := zad (zaj (B' := B) o3 (Nat.le_trans hB (Nat.le_trans k1.size (kd.size)))) K36 (fun q hq e => by
   rcases e with rfl | e
   ·exact zae o3 hx3.var (by decide) hq
   ·exact zbK o3 hx3.own (by decide) hq e)
  have hK6 : Kp w w6 (fun q => q = b ∨ Value.ownBlock (.slice a hs.length c) = some q) := ((k1.trans0 K3).of_none).trans' K36
  have bk6 : GoodB ⟨st, k.kept, k.notes ++ [l]⟩ → BkAt w6 B b ⟨a4, hs.length + 1, c4⟩ (hs ++ [⟨a2, l.length, c2⟩]) ⟨st, k.kept, k.notes ++ [l]⟩ := fun gd => by
   refine ⟨v6, ?_, by simp [hl], ?_, gd⟩
   ·rw [e4]; exact o6
   ·intro i hi
    rw [List.length_append, List.length_singleton] at hi
    by_cases hlt : i < hs.length
    ·simp only [List.getElem_append_left hlt, List.getElem_append_left (show i < k.notes.length by omega)]
     exact r6 i hlt
    ·have hii : i = hs.length := by omega
     subst hii
     simp only [List.getElem_append_right (Nat.le_refl _), List.getElem_append_right (show k.notes.length ≤ hs.length by omega), Nat.sub_self, show hs.length - k.notes.length = 0 by omega, List.getElem_singleton]
     exact l6
  have a6 : At w6 b 0 [.int .i64 st, .int .i64 k.kept, .slice a4 (hs.length + 1) c4] := v6.at
  have q6 := Kp.refl w6 n_
  by_cases hk : k.kept < (k.notes.length + 1 : Nat)
  rotate_left
  ·rw [if_neg hk] at hgood ⊢
   refine KGO ?_
   exact ⟨rfl, ⟨_, _, (bk6 hgood).keep0 q6.drew⟩, hK6.trans0 q6.drew⟩
  rw [if_pos hk] at hgood ⊢
  rcases own_blockK o6 with ⟨_, h0⟩ | ⟨gb, cap, cells, hve, hgB, hgv, hnc, hcm, hcl, htk⟩
  ·omega
  injection hve with e1 e2 e3
  subst e1; subst e3
  refine KGO ?_
  refine Cut.fromI (l := 1) (by omega) (by omega) (by omega) ?_
  refine GW ?_
  rw [if_neg (show ¬ Int.toNat 1 = c4 by have : Int.toNat 1 = 1 := rfl; omega)]
  refine KGO ?_
  obtain ⟨H, hH⟩ : ∃ H, hs ++ [(⟨a2, l.length, c2⟩ : Sl)] = H := ⟨_, rfl⟩
  obtain ⟨M, hM⟩ : ∃ M, k.notes ++ [l] = M := ⟨_, rfl⟩
  have hHl : H.length = hs.length + 1 := by rw [← hH]; exact e4
  have hMl : M.length = hs.length + 1 := by rw [← hM]; simp [hl]
  have hrow : RowO w6.drew (.slice (some ⟨gb, 1, none⟩) hs.length (c4 - 1)) shC H.tail := by
   refine ⟨_, _, by rw [List.length_tail, hHl]; rfl, fun _ => ⟨gb, 1, rfl, hgv.lt, ?_⟩⟩
   have h0 : At w6 gb 0 (H.flatMap shC) := by
    have := (zcI o6 (by omega))
    obtain ⟨g', e1, e2, e3, e4⟩ := this
    injection e1 with e1; injection e1 with e1
    subst e1
    rw [hH] at e4; exact e4
   have h1 := zgI (s := 1) lenCl h0 1
   rw [List.drop_one] at h1
   exact zaf h1 (Kp.refl _ _).drew
  refine CallS.of (Tryz.call29 _ _) (cl_Cl H.tail hrow (by rw [List.length_tail]; omega)) ?_
  rintro e w7 ⟨v7, rfl, o7, k7⟩
  obtain ⟨a7, c7, rfl⟩ := zac o7
  refine RT ?_
  have K67 : Kp w6 w7 n_ := q6.drew.trans0 k7
  have v7 := v6.keep0 K67
  refine Store.cellK (i := 2) v7 (by simp) (by rfl) ⟨rfl, by simp, by simp⟩ fun w8 v8 k8 => ?_
  refine KGO ?_
  have ob7 : Value.ownBlock (.slice a7 H.tail.length c7) ≠ some b := zae o7 v7 (by decide)
  have hB7 : B ≤ w6.drew.heap.size := Nat.le_trans hB hK6.size
  refine ⟨rfl, ⟨⟨a7, H.tail.length, c7⟩, H.tail, ⟨v8, zaj (zad o7 k8 (fun q hq e => ob7 (by have e : q = b := e; rw [← e]; exact hq))) hB7, ?_, ?_, hgood⟩⟩, (hK6.trans0 K67).trans' (k8.mono fun q _ e => .inl e)⟩
  ·have := hgood
   simp only [List.length_tail, hHl, hM, hMl]
  ·intro i hi
   have bk := bk6
   have r8 : ∀ j (hj : j < H.length), w8.ownsRow B 66 3 H[j].v (M[j]'(by omega)).length ((M[j]'(by omega)).flatMap chC) := by
    intro j hj
    have r : w6.ownsRow B 66 3 H[j].v (M[j]'(by omega)).length ((M[j]'(by omega)).flatMap chC) := by
     subst hH; subst hM
     by_cases hlt : j < hs.length
     ·simp only [List.getElem_append_left hlt, List.getElem_append_left (show j < k.notes.length by omega)]
      exact r6 j hlt
     ·have hii : j = hs.length := by omega
      subst hii
      simp only [List.getElem_append_right (Nat.le_refl _), List.getElem_append_right (show k.notes.length ≤ hs.length by omega), Nat.sub_self, show hs.length - k.notes.length = 0 by omega, List.getElem_singleton]
      exact l6
    exact zad (zab r K67) k8 fun q hq e => zae (zab r K67) v7 (by decide) (by have e : q = b := e; rw [← e]; exact hq)
   rw [List.length_tail] at hi
   have := r8 (i + 1) (by omega)
   simp only [List.getElem_tail, hM]
   exact this
end
end Go.Proofs.YtcplagfblmemhaaGreatDoor
namespace Go.Proofs.YtcplagfblmemhaaGreatDoor
set_option linter.unusedVariables false
set_option maxHeartbeats 8000000
open Go.Shelf Go.RowKit Go.Pw Go.Vc Go.Cs Go.Lib Go.Cd
set_option linter.unusedVariables false
set_option maxRecDepth 100000
def ren165 : Go.Shelf.Ren := ⟨fun | 165 => 78 | 240 => 126 | 241 => 127 | 276 => 168 | 277 => 169 | n => n, fun | 0 => 0 | 3 => 3 | 4 => 4 | 5 => 5 | 9 => 9 | 20 => 20 | 37 => 134 | 70 => 133 | 72 => 136 | 164 => 229 | n => n, fun | n => n⟩
theorem lays165 : Go.Proofs.Lays.n165 Tryz.prog ren165 := {
 mixed := by kernel_rfl
 f165 := Tryz.func78.trans (congrArg some (by kernel_rfl))
 f240 := Tryz.func126.trans (congrArg some (by kernel_rfl))
 f241 := Tryz.func127.trans (congrArg some (by kernel_rfl))
 f276 := Tryz.func168.trans (congrArg some (by kernel_rfl))
 f277 := Tryz.func169.trans (congrArg some (by kernel_rfl))
 t0 := Tryz.underlying0
 a0 := Tryz.isAgg0
 z0 := Tryz.sizeOf0
 v0 := Tryz.zeroValue0
 t3 := Tryz.underlying3
 a3 := Tryz.isAgg3
 z3 := Tryz.sizeOf3
 v3 := Tryz.zeroValue3
 t4 := Tryz.underlying4
 a4 := Tryz.isAgg4
 z4 := Tryz.sizeOf4
 v4 := Tryz.zeroValue4
 t9 := Tryz.underlying9
 a9 := Tryz.isAgg9
 z9 := Tryz.sizeOf9
 v9 := Tryz.zeroValue9
 t20 := Tryz.underlying20
 a20 := Tryz.isAgg20
 z20 := Tryz.sizeOf20
 v20 := Tryz.zeroValue20
 t37 := Tryz.underlying134
 a37 := Tryz.isAgg134
 z37 := Tryz.sizeOf134
 v37 := Tryz.zeroValue134
 t70 := Tryz.underlying133
 a70 := Tryz.isAgg133
 z70 := Tryz.sizeOf133
 v70 := Tryz.zeroValue133
 t72 := Tryz.underlying136
 a72 := Tryz.isAgg136
 z72 := Tryz.sizeOf136
 v72 := Tryz.zeroValue136
 t164 := Tryz.underlying229
 a164 := Tryz.isAgg229
 z164 := Tryz.sizeOf229
 v164 := Tryz.zeroValue229 }
theorem ext165 : Builder.Extra Tryz.prog ren165 := {
 sizeBuilder := by kernel_rfl
 liesBuilder := by kernel_rfl
 t5 := Tryz.underlying5
 a5 := Tryz.isAgg5
 z5 := Tryz.sizeOf5
 v5 := Tryz.zeroValue5
 infoByte := by kernel_rfl
 cellsByte := by kernel_rfl
 sizeByte := by kernel_rfl
 neB5 := by decide }
theorem zqy {n : Nat} (w : World) (B b : Nat) (hB : B ≤ b) (hbk : w.heap[b]? = some (.cells #[.pointer none, .slice none 0 0] 136)) (hBw : B ≤ w.heap.size) (hn : n ≤ 281474976710656) :
  Calls Tryz.prog 78 #[.pointer (some ⟨b, 0, none⟩), .int .i64 n] w fun e w' => e = .returned (.tuple #[]) ∧ Bld w' B b [] ∧ Below B w w' :=
 (Any.Builder_Grow_fresh lays165 ext165 B b n w hB hbk hBw hn).mono fun e w' ⟨h1, h2, h3⟩ => by
  obtain ⟨q1, v, q2, q3, q4⟩ := h2
  exact ⟨h1, .inr ⟨q1, v, q2, World.ownsRowF_of q3, q4⟩, h3⟩
theorem zcv (l : List (List UInt8)) {i : Nat} (h : i < l.length) : ((l.take (i + 1)).flatten).length = (l.take i).flatten.length + l[i].length := by
 rw [List.take_succ_eq_append_getElem h, List.flatten_append, List.length_append, List.flatten_singleton]
theorem zcC (l : List (List UInt8)) (i : Nat) : (l.take i).flatten.length ≤ l.flatten.length := by
 conv => rhs; rw [← List.take_append_drop i l]
 rw [List.flatten_append, List.length_append]; omega
section
variable {w : World}
theorem zqu (l : List (List UInt8)) {v : Value} (hv : RowT w v l) (hcap : ∀ a n c, v = .slice a n c → n ≤ c) (hl : l.flatten.length ≤ 140737488355328) (hn : l.length ≤ 1000000) :
  Calls Tryz.prog 48 #[v, .string ⟨#[]⟩] w fun e w' => e = .returned (.string (str l.flatten)) ∧ Kp w w' n_ := by
 obtain ⟨a, cap, rfl, hr⟩ := hv
 have hcap := hcap _ _ _ rfl
 refine zaa (args := [.slice a l.length cap, .string ⟨#[]⟩]) Tryz.func48 rfl NL ?_; refine GW ?_
 by_cases h0 : l.length = 0
 ·refine KGO ?_
  rw [List.eq_nil_of_length_eq_zero h0]
  exact ⟨rfl, Kp.refl _ _⟩
 obtain ⟨gb, o, rfl, hgb, hat⟩ := hr (by omega)
 by_cases h1 : l.length = 1
 ·have hca := zdW hat (show 0 < l.length by omega)
  refine KGO ?_
  refine ⟨?_, Kp.refl _ _⟩
  obtain ⟨x, rfl⟩ := List.length_eq_one_iff.1 h1
  simp
 refine KGO ?_
 refine Loop.intro (ι := Nat) (fun i => [(0, .slice (some ⟨gb, o, none⟩) l.length cap), (1, .string ⟨#[]⟩), (5, .int .i64 ((l.take i).flatten.length : Nat)), (39, .slice (some ⟨gb, o, none⟩) l.length cap), (40, .int .i64 (l.length : Nat)), (41, .int .i64 (i : Nat))])
  (fun i wr => Kp w wr n_ ∧ i ≤ l.length) (fun i => l.length - i) 0 ⟨rfl, rfl, rfl, rfl, rfl, rfl, trivial⟩ ⟨Kp.refl _ _, by omega⟩ ?_
 rintro i g wr ⟨hK, hi⟩
 have hle := zcC l i
 refine GW ?_
 by_cases hlt : i < l.length
 ·have hca := zdW hat hlt
  have hfl := zcv l hlt
  have hle2 := zcC l (i + 1)
  have hsz : (str l[i]).size = l[i].length := rfl
  obtain ⟨X, hX⟩ : ∃ X, str l[i] = X := ⟨_, rfl⟩
  rw [hX] at hca hsz
  refine KGO ?_
  exact ⟨i + 1, ⟨rfl, rfl, v_int (by rw [hfl]; omega), rfl, rfl, v_int (by simp), trivial⟩, ⟨hK, by omega⟩, by dsimp only; omega⟩
 ·have hii : i = l.length := by omega
  subst hii
  rw [List.take_length] at hle ⊢
  refine KGO ?_
  have hb0 : (wr.alloc (.cells #[.pointer none, .slice none 0 0] 136)).heap[wr.heap.size]? = some (.cells #[.pointer none, .slice none 0 0] 136) := heap_alloc_new _ _
  have k1 : Kp wr (wr.alloc (.cells #[.pointer none, .slice none 0 0] 136)) n_ := (Kp.refl _ _).alloc _
  generalize wr.alloc (.cells #[.pointer none, .slice none 0 0] 136) = w1 at *
  have K1 := hK.trans0 k1
  obtain ⟨b, hb⟩ : ∃ b, wr.heap.size = b := ⟨_, rfl⟩
  have hwb : w.heap.size ≤ b := by have := hK.size; omega
  rw [hb] at hb0 ⊢
  refine CallS.of (Tryz.call78 _ _) (zqy (n := l.flatten.length) w1 w.heap.size b hwb hb0 K1.size (by omega)) ?_
  rintro e w2 ⟨rfl, hb2, hbe2⟩
  refine RT ?_
  have K2 := K1.below' hbe2 (Nat.le_refl _)
  have hca := zdW hat (show 0 < l.length by omega)
  have hl0 : (l[0]'(by omega)).length ≤ l.flatten.length := by
   have e := zcv l (i := 0) (by omega)
   have e2 := zcC l (0 + 1)
   omega
  have hsz : (str l[0]).size = l[0].length := rfl
  refine KGO ?_
  refine CallS.of (Tryz.call79 _ _) (zbo (str l[0]) w2 hb2 (by rw [hsz, List.length_nil]; omega) K2.size) ?_
  rintro e w3 ⟨rfl, hb3, hbe3, _⟩
  refine RT ?_
  have K3 := K2.below' hbe3 (Nat.le_refl _)
  rw [List.nil_append, show L (str l[0]) = l[0] from rfl] at hb3
  refine KGO ?_
  refine Cut.fromI (l := 1) (by omega) (by omega) (by omega) ?_
  refine GW ?_
  rw [if_neg (show ¬ Int.toNat 1 = cap by simp; omega)]
  refine KGO ?_
  refine Loop.intro (ι := Nat) (fun i => [(1, .string ⟨#[]⟩), (8, .pointer (some ⟨b, 0, none⟩)), (63, .slice (some ⟨gb, o + 1, none⟩) (l.length - 1) (cap - 1)), (64, .int .i64 ((l.length - 1 : Nat) : Int)), (65, .int .i64 (i : Nat))])
   (fun i wr => Kp w wr n_ ∧ i + 1 ≤ l.length ∧ Bld wr w.heap.size b (l.take (i + 1)).flatten) (fun i => l.length - i) 0 ⟨rfl, rfl, rfl, rfl, rfl, trivial⟩ ⟨K3, by omega, ?_⟩ ?_
  ·rw [List.take_succ_eq_append_getElem (by omega)]; simpa using hb3
  rintro i g wr ⟨hK, hi, hbr⟩
  refine GW ?_
  by_cases hlt : i + 1 < l.length
  ·have hca := zdW hat hlt
   have hca2 : w.cell? ⟨gb, o + 1 + i, none⟩ = some (.string (str l[i + 1])) := by rw [show o + 1 + i = o + (i + 1) by omega]; exact hca
   have hfl := zcv l hlt
   have hle2 := zcC l (i + 1 + 1)
   have hsz : (str l[i + 1]).size = l[i + 1].length := rfl
   refine KGO ?_
   refine CallS.of (Tryz.call79 _ _) (zbo ⟨#[]⟩ wr hbr (by show _ + 0 ≤ _; omega) hK.size) ?_
   rintro e w5 ⟨rfl, hb5, hbe5, _⟩
   refine RT ?_
   rw [show L ⟨#[]⟩ = [] from rfl, List.append_nil] at hb5
   have K5 := hK.below' hbe5 (Nat.le_refl _)
   refine CallS.of (Tryz.call79 _ _) (zbo (str l[i + 1]) w5 hb5 (by rw [hsz]; omega) K5.size) ?_
   rintro e w6 ⟨rfl, hb6, hbe6, _⟩
   refine RT ?_
   rw [show L (str l[i + 1]) = l[i + 1] from rfl] at hb6
   refine KGO ?_
   refine ⟨i + 1, ⟨rfl, rfl, rfl, rfl, v_int (by simp), trivial⟩, ⟨K5.below' hbe6 (Nat.le_refl _), by omega, ?_⟩, by dsimp only; omega⟩
   rw [List.take_succ_eq_append_getElem hlt, List.flatten_append, List.flatten_singleton]; exact hb6
  ·refine KGO ?_
   have hii : i + 1 = l.length := by omega
   rw [hii, List.take_length] at hbr
   refine CallS.of (Tryz.call76 _ _) (zeC wr hbr hK.size) ?_
   rintro e w5 ⟨rfl, hb5, hbe5, _⟩
   refine RT ?_
   exact ⟨rfl, hK.below' hbe5 (Nat.le_refl _)⟩
end
end Go.Proofs.YtcplagfblmemhaaGreatDoor
namespace Go.Proofs.YtcplagfblmemhaaGreatDoor
set_option linter.unusedVariables false
set_option maxHeartbeats 8000000
open Go.Shelf Go.RowKit Go.Pw Go.Vc Go.Cs Go.Lib Go.Cd Go.Cx
set_option linter.unusedVariables false
set_option maxRecDepth 100000
theorem zak {α : Type} {w : World} {B s n : Nat} {e : TypeId} {v : Value} {c : α → List Value} {l : List α} (h : w.ownsRow B e s v n (l.flatMap c)) (hn : n = l.length) : RowO w v c l := by
 subst hn
 rcases own_blockK h with ⟨rfl, h0⟩ | ⟨g, cap, cells, rfl, hB, hv, _⟩
 ·exact ⟨none, 0, by rw [h0], fun hp => absurd h0 (by omega)⟩
 ·refine ⟨_, _, rfl, fun hp => ⟨g, 0, rfl, hv.lt, ?_⟩⟩
  obtain ⟨g', e1, _, _, e4⟩ := zcI h hp
  injection e1 with e1; injection e1 with e1; subst e1; exact e4
theorem zmV {w : World} {B s n a c : Nat} {e : TypeId} {ad : Option Addr} {xs : List Value} (h : w.ownsRow B e s (.slice ad a c) n xs) : a ≤ c := by
 rcases own_blockK h with ⟨e, _⟩ | ⟨g, cap, cells, e, _, _, hn, _⟩
 ·injection e with e1 e2 e3; omega
 ·injection e with e1 e2 e3; omega
section
end
theorem bs3T (x y z : ByteArray) (w : World) : (Instr.buildSlice 58 3 [(0, .string x), (1, .string y), (2, .string z)].toArray).run Tryz.prog w = .ok (.slice (some ⟨w.heap.size, 0, none⟩) 3 3) (w.alloc (.cells (List.toArray ([x, y, z].map fun s => Value.string s)) 9)) := by
 simp [Instr.buildSlice, go_sem, Tryz.runUnderlying58]
theorem bs1T (x : ByteArray) (w : World) : (Instr.buildSlice 58 1 [(0, .string x)].toArray).run Tryz.prog w = .ok (.slice (some ⟨w.heap.size, 0, none⟩) 1 1) (w.alloc (.cells (List.toArray [.string x]) 9)) := by
 simp [Instr.buildSlice, go_sem, Tryz.runUnderlying58]
theorem bs3I (x y z : Int) (w : World) : (Instr.buildSlice 37 3 [(0, .int .i64 x), (1, .int .i64 y), (2, .int .i64 z)].toArray).run Tryz.prog w = .ok (.slice (some ⟨w.heap.size, 0, none⟩) 3 3) (w.alloc (.cells (List.toArray [.int .i64 x, .int .i64 y, .int .i64 z]) 3)) := by
 simp [Instr.buildSlice, go_sem, Tryz.runUnderlying37]
theorem zdE (l : List Chg) : (flatC l).length = 3 * l.length := by
 induction l with
 | nil => rfl
 | cons c l ih =>
  show ((([c.of.toNat, c.id.toNat, c.what.toNat] : List Nat) ++ flatC l)).length = _
  rw [List.length_append, ih]; simp; omega
theorem zmk (l : List Chg) (c : Chg) : flatC (l ++ [c]) = flatC l ++ [c.of.toNat, c.id.toNat, c.what.toNat] := by
 unfold flatC; rw [List.flatMap_append, List.flatMap_singleton]
theorem zhd {c : Chg} (h : fineA c = true) : ((c.of.toNat : Nat) : Int) = c.of ∧ ((c.id.toNat : Nat) : Int) = c.id ∧ ((c.what.toNat : Nat) : Int) = c.what ∧ c.of.toNat < 2 ^ 63 ∧ c.what.toNat < 2 ^ 63 := by
 simp only [fineA, three, Bool.and_eq_true, decide_eq_true_eq] at h
 omega
def partsA (k : Bk) (i : Nat) : List (List UInt8) := numE k.kept.toNat :: numE (firstA k).toNat :: numE k.notes.length :: (k.notes.take i).map fun l => numsE (flatC l)
theorem zgi (k : Bk) : (partsA k k.notes.length).flatten = bytesA k := by
 unfold partsA bytesA
 rw [List.take_length]
 simp [List.flatMap_def]
theorem zci {B e s : Nat} (w : World) (cur : List Value) (n : Nat) (hb : B ≤ w.heap.size) (hm : n ≤ maxLen) (hs : cur.length = n * s) :
  (w.alloc (.cells (List.toArray cur) e)).ownsRow B e s (.slice (some ⟨w.heap.size, 0, none⟩) n n) n cur :=
 ⟨hs, .inr ⟨w.heap.size, n, List.toArray cur, rfl, hb, heap_alloc_new w _, Nat.le_refl _, hm, by simpa using hs, (by show List.take (n * s) cur = cur; rw [← hs, List.take_length])⟩⟩
theorem znF (l : List (List UInt8)) : l.flatMap txC = l.map fun s => Value.string (str s) := by
 induction l with
 | nil => rfl
 | cons x l ih => simp only [List.flatMap_cons, List.map_cons, ih]; rfl
theorem zjy (l : List Sl) : l.flatMap shC = l.map fun s => Value.slice s.a s.n s.c := by
 induction l with
 | nil => rfl
 | cons x l ih => simp only [List.flatMap_cons, List.map_cons, ih]; rfl
theorem zjZ (k : Bk) (g : GoodB k) (hsm : ∀ l ∈ k.notes, l.length ≤ 1000) (hid : ∀ l ∈ k.notes, ∀ c ∈ l, c.id < 9223372036854775808) : (bytesA k).length ≤ 30 + 30000 * k.notes.length := by
 have g1 := g.ns; have g2 := g.s0; have g3 := g.s1; have g4 := g.nk; have g5 := g.k1; have g6 := g.k0
 have n1 := zca (show k.kept.toNat < 2 ^ 63 by omega)
 have n2 := zca (show (firstA k).toNat < 2 ^ 63 by unfold firstA; omega)
 have n3 := zca (show k.notes.length < 2 ^ 63 by omega)
 have n4 : ∀ (L : List (List Chg)), (∀ l ∈ L, l.length ≤ 1000 ∧ (∀ c ∈ l, fineA c = true ∧ c.id < 9223372036854775808)) → (L.flatMap fun l => numsE (flatC l)).length ≤ 30000 * L.length := by
  intro L
  induction L with
  | nil => intro _; simp
  | cons l L ih =>
   intro h
   have h1 := ih fun x hx => h x (List.mem_cons_of_mem _ hx)
   have h2 := h l List.mem_cons_self
   have h3 := zdE l
   have h4 := zca (show (flatC l).length < 2 ^ 63 by omega)
   have h5 := zhn (flatC l) (fun n hn => by
    obtain ⟨c, hc, hn⟩ := List.mem_flatMap.1 hn
    have f := zhd (h2.2 c hc).1
    have f2 := (h2.2 c hc).2
    rcases List.mem_cons.1 hn with rfl | hn
    ·exact f.2.2.2.1
    rcases List.mem_cons.1 hn with rfl | hn
    ·omega
    rw [List.mem_singleton.1 hn]; exact f.2.2.2.2)
   have e : (numsE (flatC l)).length = (numE (flatC l).length).length + ((flatC l).flatMap numE).length := by unfold numsE; rw [List.length_append]
   rw [List.flatMap_cons, List.length_append, List.length_cons]
   omega
 have n5 := n4 k.notes fun l hl => ⟨hsm l hl, fun c hc => ⟨g.fine l hl c hc, hid l hl c hc⟩⟩
 unfold bytesA
 simp only [List.length_append]
 omega
section
variable {w : World}
theorem zjg {B b : Nat} {v : Sl} {hs : List Sl} {k : Bk} (h : BkAt w B b v hs k) (hid : ∀ l ∈ k.notes, ∀ c ∈ l, c.id < 9223372036854775808) (hsm : ∀ l ∈ k.notes, l.length ≤ 1000) : Calls Tryz.prog 19 #[.pointer (some ⟨b, 0, none⟩)] w fun e w' =>
  e = .returned (.string (str (bytesA k))) ∧ Kp w w' n_ := by
 have hn := zcc h.own
 have g := h.good
 have g1 := g.ns; have g2 := g.s0; have g3 := g.s1; have g4 := g.nk; have g5 := g.k1; have g6 := g.k0
 obtain ⟨a, n, c⟩ := v
 obtain rfl : n = hs.length := hn
 have hl := h.hl
 have ha : At w b 0 [.int .i64 k.state, .int .i64 k.kept, .slice a hs.length c] := h.var.at
 have hown : w.ownsRow B 53 1 (.slice a hs.length c) hs.length (hs.flatMap shC) := h.own
 have hlen : ∀ i (hi : i < k.notes.length), k.notes[i].length ≤ 1000 := fun i hi => hsm _ (List.getElem_mem hi)
 refine zaa (args := [.pointer (some ⟨b, 0, none⟩)]) Tryz.func19 rfl NL ?_; refine GW ?_
 refine Draw.held (fun u => Kp w u n_) (fun _ => true) (by decide +kernel) (Kp.refl _ _).drew ?_
 refine KGO ?_
 have hkt : k.kept = ((k.kept.toNat : Nat) : Int) := by omega
 have hft : firstA k = (((firstA k).toNat : Nat) : Int) := by unfold firstA; omega
 have hfb : (firstA k).toNat < 2 ^ 63 := by unfold firstA; omega
 rw [hkt]
 refine CallS.of (Tryz.call46 _ _) (zhM k.kept.toNat (by omega)) ?_
 rintro e w1 ⟨rfl, k1⟩
 refine RT ?_
 have K1 : Kp w w1 n_ := (Kp.refl w n_).drew.trans0 k1
 refine ⟨K1, ?_⟩
 refine GW ?_
 refine CallS.of (Tryz.call20 _ _) (zdz (h.keep0 K1)) ?_
 rintro e w2 ⟨rfl, k2⟩
 refine RT ?_
 have K2 := K1.trans0 k2
 refine ⟨K2, ?_⟩
 refine GW ?_
 rw [hft]
 refine CallS.of (Tryz.call46 _ _) (zhM (firstA k).toNat hfb) ?_
 rintro e w3 ⟨rfl, k3⟩
 refine RT ?_
 have K3 := K2.trans0 k3
 refine ⟨K3, ?_⟩
 refine KGO ?_
 refine CallS.of (Tryz.call46 _ _) (zhM hs.length (by omega)) ?_
 rintro e w4 ⟨rfl, k4⟩
 refine RT ?_
 have K4 := K3.trans0 k4
 refine ⟨K4, ?_⟩
 refine GW ?_
 refine RunV.of (bs3T _ _ _ _) ?_
 have k5 : Kp w4 (w4.alloc (.cells (List.toArray ([str (numE k.kept.toNat), str (numE (firstA k).toNat), str (numE hs.length)].map fun s => Value.string s)) 9)) n_ := (Kp.refl _ _).alloc _
 have o5 := zci (B := w.heap.size) (e := 9) (s := 1) w4 ([str (numE k.kept.toNat), str (numE (firstA k).toNat), str (numE hs.length)].map fun s => Value.string s) 3 K4.size (by decide) rfl
 generalize w4.alloc (.cells (List.toArray ([str (numE k.kept.toNat), str (numE (firstA k).toNat), str (numE hs.length)].map fun s => Value.string s)) 9) = w5 at *
 have hvb : w.heap.size ≤ w4.heap.size := K4.size
 generalize w4.heap.size = g5' at *
 have K5 := K4.trans0 k5
 have o5 : OwnT w5 w.heap.size (.slice (some ⟨g5', 0, none⟩) 3 3) (partsA k 0) := by
  have e : (partsA k 0).flatMap txC = [str (numE k.kept.toNat), str (numE (firstA k).toNat), str (numE hs.length)].map fun s => Value.string s := by rw [znF, hl]; rfl
  show w5.ownsRow w.heap.size 9 1 _ 3 _
  rw [e]; exact o5
 refine ⟨K5, ?_⟩
 refine GW ?_
 have h5 := h.keep0 K5
 have a5 := zaf ha K5
 have q5 := Kp.refl w5 n_
 refine KGO ?_
 refine Loop.intro (ι := Nat × Option Addr × Nat) (fun i => [(3, .slice i.2.1 (i.1 + 3) i.2.2), (27, .slice a hs.length c), (28, .int .i64 (hs.length : Nat)), (29, .int .i64 (i.1 : Nat))])
  (fun i wr => Kp w wr n_ ∧ i.1 ≤ hs.length ∧ OwnT wr w.heap.size (.slice i.2.1 (i.1 + 3) i.2.2) (partsA k i.1)) (fun i => hs.length - i.1) (0, some ⟨g5', 0, none⟩, 3) ⟨rfl, rfl, rfl, rfl, trivial⟩ ⟨K5, by omega, o5⟩ ?_
 rintro ⟨i, la, lc⟩ gf wr ⟨hK, hi, ho⟩
 dsimp only at hi ho ⊢
 refine GW ?_
 by_cases hlt : i < hs.length
 ·obtain ⟨gb, e1, _, hgb, hat⟩ := zcI hown (by omega)
  subst e1
  have hca : w.cell? ⟨gb, 0 + i, none⟩ = some (.slice hs[i].a hs[i].n hs[i].c) := hat i _ (by
   rw [zjy]; simp [hlt])
  have hrow := h.row i hlt
  have hnt : k.notes[i]'(by omega) ∈ k.notes := List.getElem_mem _
  obtain ⟨nt, hnte⟩ : ∃ nt, k.notes[i]'(by omega) = nt := ⟨_, rfl⟩
  rw [hnte] at hrow hnt
  have hxn := zcc hrow
  have htk : k.notes.take (i + 1) = k.notes.take i ++ [nt] := by rw [← hnte]; exact List.take_succ_eq_append_getElem (by omega)
  obtain ⟨x, hx⟩ : ∃ x, hs[i] = x := ⟨_, rfl⟩
  rw [hx] at hrow hxn hca
  obtain ⟨xa, xn, xc⟩ := x
  obtain rfl : xn = nt.length := hxn
  have hrow : w.ownsRow B 66 3 (.slice xa nt.length xc) nt.length (nt.flatMap chC) := hrow
  have hfin := g.fine nt hnt
  have hidn := hid nt hnt
  have hln := hsm nt hnt
  refine KGO ?_
  refine Loop.intro (ι := Nat × Option Addr × Nat) (fun j => [(3, .slice la (i + 3) lc), (27, .slice (some ⟨gb, 0, none⟩) hs.length c), (28, .int .i64 (hs.length : Nat)), (29, .int .i64 (i : Nat)), (6, .slice j.2.1 (3 * j.1) j.2.2), (33, .slice xa nt.length xc), (34, .int .i64 (nt.length : Nat)), (35, .int .i64 (j.1 : Nat))])
   (fun j wq => Kp w wq n_ ∧ j.1 ≤ nt.length ∧ OwnT wq w.heap.size (.slice la (i + 3) lc) (partsA k i) ∧ wq.ownsRow w.heap.size 3 1 (.slice j.2.1 (3 * j.1) j.2.2) (3 * j.1) ((iL (flatC (nt.take j.1))).flatMap inC)) (fun j => nt.length - j.1) (0, none, 0) ⟨rfl, rfl, rfl, rfl, rfl, rfl, rfl, rfl, trivial⟩ ⟨hK, by omega, ho, World.ownsRow_nil _ _ _ _⟩ ?_
  rintro ⟨j, na, nc⟩ gg wq ⟨hKq, hj, hoq, hni⟩
  dsimp only at hj hoq hni ⊢
  refine GW ?_
  by_cases hlj : j < nt.length
  ·obtain ⟨gx, e1, _, hgx, hatx⟩ := zcI hrow (by omega)
   subst e1
   have hcf := hfin nt[j] (List.getElem_mem hlj)
   obtain ⟨f1, f2, f3, f4, f5⟩ := zhd hcf
   have f6 := hidn nt[j] (List.getElem_mem hlj)
   have hnx : flatC (nt.take (j + 1)) = flatC (nt.take j) ++ [nt[j].of.toNat, nt[j].id.toNat, nt[j].what.toNat] := by rw [List.take_succ_eq_append_getElem hlj, zmk]
   have hfl := zdE (nt.take j)
   rw [List.length_take] at hfl
   refine KGO ?_
   refine Store.fresh (vs := chC nt[j]) (by rfl) rfl (zam (by rfl)) ?_
   obtain ⟨a_bc, k_wa, z_wa⟩ := new3 wq 66 (chC nt[j])
   generalize wq.alloc (.cells (List.toArray (chC nt[j])) 66) = wa at *
   generalize hs_bc : wq.heap.size = bc at *
   refine KGO ?_
   refine RunV.of (bs3I _ _ _ _) ?_
   have kb : Kp wa (wa.alloc (.cells (List.toArray [.int .i64 nt[j].of, .int .i64 nt[j].id, .int .i64 nt[j].what]) 3)) n_ := (Kp.refl _ _).alloc _
   have hbf := zaq wa 3 [.int .i64 nt[j].of, .int .i64 nt[j].id, .int .i64 nt[j].what]
   have ob := zab hni (k_wa.trans0 kb)
   have oqb := zab hoq (k_wa.trans0 kb)
   generalize wa.alloc (.cells (List.toArray [.int .i64 nt[j].of, .int .i64 nt[j].id, .int .i64 nt[j].what]) 3) = wb at *
   generalize wa.heap.size = gb5 at *
   have Kb := (hKq.trans0 k_wa).trans0 kb
   refine KGO ?_
   have h3j : 3 * j = (iL (flatC (nt.take j))).length := by rw [zcH]; omega
   have hnew : iL (flatC (nt.take j)) ++ [nt[j].of, nt[j].id, nt[j].what] = iL (flatC (nt.take (j + 1))) := by
    rw [hnx]; simp only [iL, List.map_append, List.map_cons, List.map_nil, f1, f2, f3]
   have ob' : OwnR 3 inC 1 wb w.heap.size (.slice na (3 * j) nc) (iL (flatC (nt.take j))) := by
    unfold OwnR; rw [← h3j]; exact ob
   refine tyI.app (m := 3) [nt[j].of, nt[j].id, nt[j].what] ob' Kb.size rfl (fun _ => ⟨_, _, rfl, hbf⟩) (by simp; omega) (by simp; omega) fun v7 w7 o7 k7 => ?_
   rw [hnew] at o7
   have h3j2 : (iL (flatC (nt.take (j + 1)))).length = 3 * (j + 1) := by rw [zcH, zdE, List.length_take]; omega
   unfold OwnR at o7
   rw [h3j2] at o7
   obtain ⟨a7, c7, rfl⟩ := zac o7
   have K7 := zaZ ob k7 Kb (Nat.le_refl _)
   have oq7 := zad oqb k7 (fun q hq e => zbK ob oqb (by decide) e hq)
   refine KGO ?_
   exact ⟨(j + 1, a7, c7), ⟨rfl, rfl, rfl, rfl, rfl, rfl, rfl, v_int (by simp), trivial⟩, ⟨K7, by omega, oq7, o7⟩, by dsimp only; omega⟩
  ·refine KGO ?_
   have hjn : j = nt.length := by omega
   subst hjn
   rw [List.take_length] at hni
   have hfn := zdE nt
   have hni' : OwnI wq w.heap.size (.slice na (3 * nt.length) nc) (iL (flatC nt)) := by
    show wq.ownsRow _ _ _ _ (iL (flatC nt)).length _
    rw [zcH, hfn]; exact hni
   have hfb2 : ∀ n ∈ flatC nt, n < 2 ^ 63 := fun n hn => by
    obtain ⟨c, hc, hn⟩ := List.mem_flatMap.1 hn
    have f := zhd (hfin c hc)
    have f2 := hidn c hc
    rcases List.mem_cons.1 hn with rfl | hn
    ·exact f.2.2.2.1
    rcases List.mem_cons.1 hn with rfl | hn
    ·omega
    rw [List.mem_singleton.1 hn]; exact f.2.2.2.2
   refine CallS.of (Tryz.call47 _ _) (zpw (flatC nt) (zak hni' rfl) hfb2 (by omega)) ?_
   rintro e w8 ⟨rfl, k8⟩
   refine RT ?_
   have oq8 := zab hoq k8
   refine RunV.of (bs1T _ _) ?_
   have kb : Kp w8 (w8.alloc (.cells (List.toArray (txC (numsE (flatC nt)))) 9)) n_ := (Kp.refl _ _).alloc _
   have hbf := zaq w8 9 (txC (numsE (flatC nt)))
   have oq9 := zab oq8 kb
   generalize w8.alloc (.cells (List.toArray (txC (numsE (flatC nt)))) 9) = w9 at *
   generalize w8.heap.size = g9 at *
   refine KGO ?_
   have K9 := (hKq.trans0 k8).trans0 kb
   have hpl : (partsA k i).length = i + 3 := by simp [partsA, Nat.min_eq_left (show i ≤ k.notes.length by omega)]
   have oq9' : OwnR 9 txC 1 w9 w.heap.size (.slice la (i + 3) lc) (partsA k i) := oq9
   have hpn : partsA k i ++ [numsE (flatC nt)] = partsA k (i + 1) := by unfold partsA; rw [htk]; simp
   refine tyT.app1 (numsE (flatC nt)) oq9' K9.size hbf (by omega) (by omega) fun v7 w7 o7 k7 => ?_
   rw [hpn] at o7
   have hpl2 : (partsA k (i + 1)).length = i + 1 + 3 := by simp [partsA, Nat.min_eq_left (show i + 1 ≤ k.notes.length by omega)]
   have o7b : w7.ownsRow w.heap.size 9 1 v7 (i + 1 + 3) ((partsA k (i + 1)).flatMap txC) := by have := o7; unfold OwnR at this; rw [hpl2] at this; exact this
   obtain ⟨a7, c7, rfl⟩ := zac o7b
   have K7 := zaZ oq9 k7 K9 (Nat.le_refl _)
   refine KGO ?_
   exact ⟨(i + 1, a7, c7), ⟨rfl, rfl, rfl, v_int (by simp), trivial⟩, ⟨K7, by omega, o7⟩, by dsimp only; omega⟩
 ·refine KGO ?_
  have hii : i = k.notes.length := by omega
  subst hii
  have hpl : (partsA k k.notes.length).length = k.notes.length + 3 := by simp [partsA]
  have ho2 : wr.ownsRow w.heap.size 9 1 (.slice la (k.notes.length + 3) lc) (k.notes.length + 3) ((partsA k k.notes.length).flatMap txC) := by
   have := ho; unfold OwnT at this; rw [hpl] at this; exact this
  have hbig : (partsA k k.notes.length).flatten.length ≤ 140737488355328 := by
   rw [zgi]; have := zjZ k g hsm hid; omega
  refine CallS.of (Tryz.call48 _ _) (zqu (w := wr) (partsA k k.notes.length) (zak ho2 hpl.symm) (fun a n c e => by injection e with e1 e2 e3; have := zmV ho2; omega) hbig (by omega)) ?_
  rintro e w9 ⟨rfl, k9⟩
  refine RT ?_
  exact ⟨by rw [zgi], hK.trans0 k9⟩
end
end Go.Proofs.YtcplagfblmemhaaGreatDoor
