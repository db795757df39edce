/- Helper text of this claim: Cy2, Cy4, Ax1, Ax2, Ax3, Ax4, Ax5, Ax6, Ae4: lemmas and contracts that the proved statement rests on; no conditions of its own. -/
import Derived.Test.YtcplagfblmemhaaGCy0
import Derived.Test.YtcplagfblmemhaaGOpn
import Derived.Test.YtcplagfblmemhaaGAg0
import Derived.Laws.StructEq
-- alias Try
namespace Go.Proofs.Ytcplagfblmemhaa
set_option linter.unusedVariables false
open Go.Shelf Go.RowKit Go.Pw Go.Vc Go.Cs Go.Lib Go.Cd Go.Cx
set_option linter.unusedVariables false
set_option maxRecDepth 100000
theorem build_no (z : Int) (s : Sl) (w : World) : (Instr.build 67 [(0, .int .i64 z), (1, .slice s.a s.n s.c)].toArray).run Try.prog w = .ok (.agg (noC (z, s)).toArray) w := by
  simp [Instr.build, Instr.fill, go_sem, Try.runUnderlying67, noC, Sl.v]
theorem bs1No (p : Int × Sl) (w : World) : (Instr.buildSlice 51 1 [(0, .agg (noC p).toArray)].toArray).run Try.prog w = .ok (.slice (some ⟨w.heap.size, 0, none⟩) 1 1) (w.alloc (.cells (List.toArray (noC p)) 67)) := by
  simp [Instr.buildSlice, go_sem, Try.runUnderlying51, noC]
theorem bs0No (w : World) : (Instr.buildSlice 51 0 [].toArray).run Try.prog w = .ok (.slice (some ⟨w.heap.size, 0, none⟩) 0 0) (w.alloc (.cells #[] 67)) := by
  simp [Instr.buildSlice, go_sem, Try.runUnderlying51]
theorem rb_rows {w w' : World} {B b : Nat} {v : Sl} {hs : List (Int × Sl)} {k : Bk} (h : RbAt w B b v hs k) (kk : Keeps w w' (fun q => q = b ∨ v.v.ownBlock = some q)) :
    ∀ i (h1 : i < hs.length), w'.ownsRow B 48 3 hs[i].2.v (k.notes[i]'(by have := h.hl; omega)).length ((k.notes[i]'(by have := h.hl; omega)).flatMap chC) := fun i h1 =>
  own_keep (h.row i h1).2 kk fun q hq e => by
    rcases e with rfl | e
    · exact own_foreignV (h.row i h1).2 h.var (by decide) hq
    · exact own_own_ne (h.row i h1).2 h.own (by decide) hq e
/-- Another kind of block than the reference's book. -/
def ForeignR (w : World) (q : Nat) : Prop := ∀ cs T f, w.heap[q]? = some (.cells cs T f) → T ≠ 53 ∧ T ≠ 67 ∧ T ≠ 48
theorem _root_.Go.Vc.VarK.foreignR {w : World} {r : Nat} {T : TypeId} {cs : List Value} (h : VarK w r T cs) (h1 : T ≠ 53) (h2 : T ≠ 67) (h3 : T ≠ 48) : ForeignR w r := fun cs' T' f' e => by
  have h' : w.heap[r]? = some (.cells cs.toArray T) := h
  rw [h'] at e
  injection e with e; injection e with e1 e2 e3
  subst e2; exact ⟨h1, h2, h3⟩
theorem RbAt.keep {w w' : World} {B b : Nat} {v : Sl} {hs : List (Int × Sl)} {k : Bk} {c : Nat → Prop} (h : RbAt w B b v hs k) (kk : Keeps w w' c) (hc : ∀ q, c q → ForeignR w q) : RbAt w' B b v hs k := by
  refine ⟨h.var.keep kk fun e => ?_, own_keep h.own kk fun q hq e => ?_, h.hl, fun i hi => ⟨(h.row i hi).1, own_keep (h.row i hi).2 kk fun q hq e => ?_⟩, h.good⟩
  · have h' : w.heap[b]? = some (.cells (List.toArray [.int .i64 k.kept, .int .i64 k.state, v.v]) 53) := h.var
    exact (hc _ e _ _ _ h').1 rfl
  · exact own_not h.own (fun cs T f ht => (hc _ e cs T f ht).2.1) hq
  · exact own_not (h.row i hi).2 (fun cs T f ht => (hc _ e cs T f ht).2.2) hq
theorem RbAt.keep0 {w w' : World} {B b : Nat} {v : Sl} {hs : List (Int × Sl)} {k : Bk} (h : RbAt w B b v hs k) (kk : Keeps w w' none_) : RbAt w' B b v hs k := h.keep kk fun _ e => e.elim
section
variable {w : World}
set_option maxHeartbeats 8000000 in
theorem ry_Note {B b : Nat} {v : Sl} {hs : List (Int × Sl)} {k : Bk} (h : RbAt w B b v hs k) (hB : B ≤ w.heap.size) (st : Int) (hst : st ≤ 9223372036854775807) (hst0 : -9223372036854775808 ≤ st) (l : List Chg) {vl : Sl} (hv : RowC w vl.v l) (hll : l.length ≤ 1000000) :
    Calls Try.prog 15 #[.pointer (some ⟨b, 0, none⟩), .int .i64 st, vl.v] w fun e w' => e = .returned (.int .i64 (noteA k st l).1) ∧ (∃ v' hs', RbAt w' B b v' hs' (noteA k st l).2) ∧ Keeps w w' (fun q => q = b ∨ v.v.ownBlock = some q) := by
  have hv0 := hv
  have hgood := noteA_good (l := l) h.good hst
  have hn := own_nS h.own
  have g := h.good
  have g1 := g.ns; have g2 := g.s0; have g3 := g.s1; have g4 := g.nk; have g5 := g.k1; have g6 := g.k0
  obtain ⟨a, n, c⟩ := v
  obtain rfl : n = hs.length := hn
  have hl := h.hl
  have ha : At w b 0 [.int .i64 k.kept, .int .i64 k.state, .slice a hs.length c] := h.var.at
  obtain ⟨la, lcap, hle, hlr⟩ := hv
  obtain ⟨la', ln, lc⟩ := vl
  injection hle with e1 e2 e3
  subst e1; subst e2; subst e3
  have q := Keeps.refl w none_
  have kb : Keeps w w (fun q => q = b ∨ Value.ownBlock (.slice a hs.length c) = some q) := Keeps.refl _ _
  refine calls_of_vc (args := [.pointer (some ⟨b, 0, none⟩), .int .i64 st, .slice la' l.length lc]) Try.func15 rfl (Nat.le_of_ble_eq_true rfl) ?_; refine Sat.go hmix ?_; conv => whnf
  unfold noteA at hgood ⊢
  by_cases h1 : k.state = 9223372036854775807
  · rw [if_pos (.inl h1)]
    refine KGO ?_
    exact ⟨rfl, ⟨_, _, h⟩, kb⟩
  by_cases h2 : st = k.state + 1
  rotate_left
  · rw [if_pos (.inr h2)]
    refine KGO ?_
    exact ⟨rfl, ⟨_, _, h⟩, kb⟩
  rw [if_neg (fun e => e.elim h1 (fun e => e h2))] at hgood ⊢
  by_cases h3 : 65536 < l.length
  · rw [if_pos (.inl h3)]
    refine KGO ?_
    exact ⟨rfl, ⟨_, _, h⟩, kb⟩
  refine KGO ?_
  refine Loop.intro (ι := Nat) (fun i => [(0, .pointer (some ⟨b, 0, none⟩)), (1, .int .i64 st), (2, .slice la' l.length lc), (7, .int .i64 (i : Nat))])
    (fun i wr => Keeps w wr none_ ∧ i ≤ l.length ∧ (l.take i).any (fun c => !fineA c) = false) (fun i => l.length - i) 0 ⟨rfl, rfl, rfl, rfl, trivial⟩ ⟨Keeps.refl _ _, by omega, rfl⟩ ?_
  rintro i gf w1 ⟨hK, hi, hany⟩
  (first | refine Then.go hmix ?_ | refine Sat.go hmix ?_ | refine ResK.go ?_ | skip); conv => whnf
  have hx1 := h.keep0 hK
  have q1 := Keeps.refl w1 none_
  by_cases hlt : i < l.length
  · obtain ⟨gb, go, e1, hgb, hat⟩ := hlr (by omega)
    subst e1
    have hat1 := at_mono hat hK
    refine KGO ?_
    refine CallS.of (Try.call42 _ _) (ry_may l[i]) ?_
    rintro e w2 ⟨rfl, k2⟩
    refine ⟨_, rfl, ?_⟩; (first | refine Then.go hmix ?_ | refine Sat.go hmix ?_ | refine ResK.go ?_ | skip); conv => whnf
    cases hf : fineA l[i] with
    | true =>
      refine KGO ?_
      exact ⟨i + 1, ⟨rfl, rfl, rfl, v_int (by simp), trivial⟩, ⟨hK.trans0 k2, by omega, by rw [List.take_succ_eq_append_getElem hlt, List.any_append, hany]; simp [hf]⟩, by dsimp only; omega⟩
    | false =>
      have : (l.any fun c => !fineA c) = true := List.any_eq_true.2 ⟨l[i], List.getElem_mem hlt, by rw [hf]; rfl⟩
      rw [if_pos (.inr this)]
      refine KGO ?_
      exact ⟨rfl, ⟨_, _, h.keep0 (hK.trans0 k2)⟩, (hK.trans0 k2).of_none⟩
  · rw [List.take_of_length_le (by omega)] at hany
    rw [hany] at hgood
    rw [hany]
    rw [if_neg (fun e => e.elim h3 (fun e => by cases e))] at hgood ⊢
    refine KGO ?_
    have hv1 := hv0.keep hK
    have ob1 : Value.ownBlock (.slice a hs.length c) ≠ some b := own_foreignV hx1.own hx1.var (by decide)
    have c1 : w1.cell? ⟨b, 2, none⟩ = some (.slice a hs.length c) := hx1.var.at 2 _ rfl
    have hbl := hx1.var.lt
    refine Draw.heldEnd (fun u => Keeps w1 u (fun q => own_ (.slice a hs.length c) q ∨ q = b) ∧ u.cell? ⟨b, 2, none⟩ = some (.slice a hs.length c)) (fun _ => true) (by simp) (by decide +kernel) (by decide +kernel) ⟨(Keeps.refl _ _).drew, c1⟩ ?_
    refine KGO ?_
    refine Held.one (by rfl) (fun u hu => hu.2) ?_
    refine KGO ?_
    have kd := (Keeps.refl w1 none_).drew
    refine RunV.of (build0Chg _) ?_
    have k2 : Keeps w1 (w1.drew.alloc (.cells #[] 48)) none_ := kd.alloc _
    have o2 := own_new 48 chC 3 (by decide) w1.drew
    have zz : w1.drew.heap.size = w1.heap.size := rfl
    rw [zz] at o2 ⊢
    generalize w1.drew.alloc (.cells #[] 48) = w2 at *
    refine ⟨⟨k2.of_none, cell_mono c1 k2⟩, ?_⟩
    (first | refine Then.go hmix ?_ | refine Sat.go hmix ?_ | refine ResK.go ?_ | skip); conv => whnf
    have hx2 := hx1.keep0 k2
    have hrl : 0 < l.length → ∃ g o, la' = some ⟨g, o, none⟩ ∧ At w2 g o (l.flatMap chC) := fun hp => by
      obtain ⟨gg, oo, e1, _, e3⟩ := hlr hp
      exact ⟨gg, oo, e1, at_mono e3 (hK.trans0 k2)⟩
    refine tyChg.app (l := []) l o2 k2.size rfl hrl (by simp; omega) (by simp; omega) fun v3 w3 o3 k3 => ?_
    rw [List.nil_append] at o3
    have k3 : Keeps w1 w3 none_ := own_le o2 k3 w1 k2 (Nat.le_refl _)
    obtain ⟨a3, c3, rfl⟩ := own_shape o3
    refine ⟨⟨k3.of_none, cell_mono c1 k3⟩, ?_⟩
    (first | refine Then.go hmix ?_ | refine Sat.go hmix ?_ | refine ResK.go ?_ | skip); conv => whnf
    have hx3 := hx1.keep0 k3
    refine RunV.of (build_no st ⟨a3, l.length, c3⟩ _) ?_
    (first | refine Then.go hmix ?_ | refine Sat.go hmix ?_ | refine ResK.go ?_ | skip); conv => whnf
    refine RunV.of (bs1No (st, ⟨a3, l.length, c3⟩) _) ?_
    have k4 : Keeps w3 (w3.alloc (.cells (List.toArray (noC (st, ⟨a3, l.length, c3⟩))) 67)) none_ := (Keeps.refl _ _).alloc _
    have h4 := at_fresh w3 67 (noC (st, ⟨a3, l.length, c3⟩))
    have o4 := own_keep0 o3 k4
    generalize w3.alloc (.cells (List.toArray (noC (st, ⟨a3, l.length, c3⟩))) 67) = w4 at *
    generalize w3.heap.size = g4' at *
    have K4 := k3.trans0 k4
    have hx4 := hx3.keep0 k4
    refine ⟨⟨K4.of_none, cell_mono c1 K4⟩, ?_⟩
    (first | refine Then.go hmix ?_ | refine Sat.go hmix ?_ | refine ResK.go ?_ | skip); conv => whnf
    have hB4 : B ≤ w4.heap.size := Nat.le_trans hB (Nat.le_trans hK.size K4.size)
    refine tyNo.app1 (st, (⟨a3, l.length, c3⟩ : Sl)) hx4.own hB4 h4 (by omega) (by omega) fun v5 w5 o5 k5 => ?_
    have e5 : (hs ++ [(st, (⟨a3, l.length, c3⟩ : Sl))]).length = hs.length + 1 := by simp
    unfold OwnR at o5
    rw [e5] at o5
    obtain ⟨a5, c5, rfl⟩ := own_shape o5
    have v5 := hx4.var.keep k5 (fun e => ob1 e)
    refine ⟨⟨(K4.of_none).trans' (k5.mono fun q _ e => .inl e), v5.at 2 _ rfl⟩, ?_⟩
    (first | refine Then.go hmix ?_ | refine Sat.go hmix ?_ | refine ResK.go ?_ | skip); conv => whnf
    refine Store.cellK (i := 2) v5 (by simp) (by rfl) ⟨rfl, by simp, by simp⟩ fun w6 v6 k6 => ?_
    refine KGO ?_
    refine Store.cellK (i := 1) v6 (by simp) (by rfl) ⟨rfl, by simp, by simp⟩ fun w7 v7 k7 => ?_
    (first | refine Then.go hmix ?_ | refine Sat.go hmix ?_ | refine ResK.go ?_ | skip); conv => whnf
    have k67 := k6.trans' k7
    have K47 : Keeps w4 w7 (fun q => q = b ∨ Value.ownBlock (.slice a hs.length c) = some q) := (k5.mono fun q _ e => .inr e).trans' (k67.mono fun q _ e => .inl e)
    have ob5 : Value.ownBlock (.slice a5 (hs.length + 1) c5) ≠ some b := own_foreignV o5 v5 (by decide)
    have o7 := own_keep o5 k67 (fun q hq e => ob5 (by have e : q = b := e; rw [← e]; exact hq))
    have r7 := rb_rows hx4 K47
    have l7 := own_keep (own_base (B' := B) o4 (Nat.le_trans hB hK.size)) K47 (fun q hq e => by
      rcases e with rfl | e
      · exact own_foreignV o4 hx4.var (by decide) hq
      · exact own_own_ne o4 hx4.own (by decide) hq e)
    have hK7 : Keeps w w7 (fun q => q = b ∨ Value.ownBlock (.slice a hs.length c) = some q) := ((hK.trans0 K4).of_none).trans' K47
    have hrow7 : ∀ i (hi : i < (hs ++ [(st, (⟨a3, l.length, c3⟩ : Sl))]).length), (hs ++ [(st, (⟨a3, l.length, c3⟩ : Sl))])[i].1 = firstA k + i + 1 ∧ w7.ownsRow B 48 3 (hs ++ [(st, (⟨a3, l.length, c3⟩ : Sl))])[i].2.v ((k.notes ++ [l])[i]'(by simp at hi ⊢; omega)).length (((k.notes ++ [l])[i]'(by simp at hi ⊢; omega)).flatMap chC) := fun i hi => by
      rw [List.length_append, List.length_singleton] at hi
      by_cases hlt : i < hs.length
      · simp only [List.getElem_append_left hlt, List.getElem_append_left (show i < k.notes.length by omega)]
        exact ⟨(hx4.row i hlt).1, r7 i hlt⟩
      · have hii : i = hs.length := by omega
        subst hii
        simp only [List.getElem_append_right (Nat.le_refl _), List.getElem_append_right (show k.notes.length ≤ hs.length by omega), Nat.sub_self, show hs.length - k.notes.length = 0 by omega, List.getElem_singleton]
        exact ⟨by unfold firstA; omega, l7⟩
    have a7 : At w7 b 0 [.int .i64 k.kept, .int .i64 st, .slice a5 (hs.length + 1) c5] := v7.at
    have q7 := Keeps.refl w7 none_
    by_cases hk : k.kept < (k.notes.length + 1 : Nat)
    rotate_left
    · rw [if_neg hk] at hgood ⊢
      have fk : firstA ⟨st, k.kept, k.notes ++ [l]⟩ = firstA k := by unfold firstA; rw [List.length_append, List.length_singleton]; dsimp only; omega
      have bk7 : RbAt w7 B b ⟨a5, hs.length + 1, c5⟩ (hs ++ [(st, ⟨a3, l.length, c3⟩)]) ⟨st, k.kept, k.notes ++ [l]⟩ := ⟨v7, by rw [e5]; exact o7, by simp [hl], fun i hi => by rw [fk]; exact hrow7 i hi, hgood⟩
      refine KGO ?_
      exact ⟨rfl, ⟨_, _, bk7.keep0 q7.drew⟩, hK7.trans0 q7.drew⟩
    rw [if_pos hk] at hgood ⊢
    rcases own_blockK o7 with ⟨_, h0⟩ | ⟨gb, cap, cells, hve, hgB, hgv, hnc, hcm, hcl, htk⟩
    · omega
    injection hve with e1 e2 e3
    subst e1; subst e3
    obtain ⟨H, hH⟩ : ∃ H, hs ++ [(st, (⟨a3, l.length, c3⟩ : Sl))] = H := ⟨_, rfl⟩
    obtain ⟨M, hM⟩ : ∃ M, k.notes ++ [l] = M := ⟨_, rfl⟩
    simp only [hH, hM] at hrow7 hgood o7 ⊢
    have hHl : H.length = hs.length + 1 := by rw [← hH]; exact e5
    have hMl : M.length = hs.length + 1 := by rw [← hM]; simp [hl]
    refine KGO ?_
    have hat7 : At w7 gb 0 (H.flatMap noC) := by
      obtain ⟨g', e1, e2, e3, e4⟩ := own_at o7 (by omega)
      injection e1 with e1; injection e1 with e1
      subst e1; exact e4
    have hkh : k.kept = hs.length := by omega
    refine Draw.heldEnd (fun u => Keeps w7 u none_) (fun _ => true) (by simp) (by decide +kernel) (by decide +kernel) (q7.drew.drew) ?_
    refine KGO ?_
    refine RunV.of (bs0No _) ?_
    have k8 : Keeps w7 (w7.drew.drew.alloc (.cells #[] 67)) none_ := q7.drew.drew.alloc _
    have o8 := own_new 67 noC 2 (by decide) w7.drew.drew
    have zz8 : w7.drew.drew.heap.size = w7.heap.size := rfl
    rw [zz8] at o8 ⊢
    generalize w7.drew.drew.alloc (.cells #[] 67) = w8 at *
    refine ⟨k8, ?_⟩
    refine KGO ?_
    rw [show (((hs.length + 1 : Nat) : Int) - k.kept) = 1 by omega]
    refine Cut.fromI (l := 1) (by omega) (by omega) (by omega) ?_
    (first | refine Then.go hmix ?_ | refine Sat.go hmix ?_ | refine ResK.go ?_ | skip); conv => whnf
    rw [if_neg (show ¬ Int.toNat 1 = c5 by have : Int.toNat 1 = 1 := rfl; omega)]
    have hat8 : At w8 gb (0 + Int.toNat 1 * 2) ((H.drop 1).flatMap noC) := at_mono (at_dropR (s := 2) lenNo hat7 1) k8
    refine tyNo.app (l := []) (H.drop 1) o8 k8.size (by rw [List.length_drop]; omega) (fun _ => ⟨gb, _, rfl, hat8⟩) (by simp; omega) (by simp; omega) fun v9 w9 o9 k9 => ?_
    rw [List.nil_append, List.drop_one] at o9
    have k9 : Keeps w7 w9 none_ := own_le o8 k9 w7 k8 (Nat.le_refl _)
    obtain ⟨a9, c9, rfl⟩ := own_shape o9
    refine ⟨k9, ?_⟩
    (first | refine Then.go hmix ?_ | refine Sat.go hmix ?_ | refine ResK.go ?_ | skip); conv => whnf
    have v9 := v7.keep0 k9
    refine Store.cellK (i := 2) v9 (by simp) (by rfl) ⟨rfl, by simp, by simp⟩ fun w10 v10 k10 => ?_
    refine KGO ?_
    have ob9 : Value.ownBlock (.slice a9 H.tail.length c9) ≠ some b := own_foreignV o9 v9 (by decide)
    have hB7 : B ≤ w7.heap.size := Nat.le_trans hB hK7.size
    refine ⟨rfl, ⟨⟨a9, H.tail.length, c9⟩, H.tail, ⟨v10, own_base (own_keep o9 k10 (fun q hq e => ob9 (by have e : q = b := e; rw [← e]; exact hq))) hB7, ?_, ?_, hgood⟩⟩, (hK7.trans0 k9).trans' (k10.mono fun q _ e => .inl e)⟩
    · simp only [List.length_tail, hHl, hMl]
    · intro i hi
      rw [List.length_tail] at hi
      obtain ⟨r1, r2⟩ := hrow7 (i + 1) (by omega)
      simp only [List.getElem_tail]
      have r2 := own_keep0 r2 k9
      refine ⟨?_, own_keep r2 k10 fun q hq e => own_foreignV r2 v9 (by decide) (by have e : q = b := e; rw [← e]; exact hq)⟩
      rw [r1]
      unfold firstA
      rw [List.length_tail, hMl]
      dsimp only
      omega
end
end Go.Proofs.Ytcplagfblmemhaa

-- alias Try
namespace Go.Proofs.Ytcplagfblmemhaa
set_option linter.unusedVariables false
open Go.Shelf Go.RowKit Go.Pw Go.Vc Go.Cs Go.Lib Go.Cd Go.Cx
set_option linter.unusedVariables false
set_option maxRecDepth 100000
def pbA (k : Bk) (i : Nat) : List UInt8 := numE k.kept.toNat ++ numE (firstA k).toNat ++ numE k.notes.length ++ (k.notes.take i).flatMap fun l => numsE (flatC l)
theorem pbA_0 (k : Bk) : pbA k 0 = numE k.kept.toNat ++ numE (firstA k).toNat ++ numE k.notes.length := by unfold pbA; simp
theorem pbA_end (k : Bk) : pbA k k.notes.length = bytesA k := by unfold pbA bytesA; rw [List.take_length]
theorem pbA_step {k : Bk} {i : Nat} {nt : List Chg} (hi : i < k.notes.length) (hn : k.notes[i] = nt) : pbA k (i + 1) = pbA k i ++ numsE (flatC nt) := by
  unfold pbA; rw [List.take_succ_eq_append_getElem hi, hn, List.flatMap_append, List.flatMap_singleton, List.append_assoc _ _ (numsE (flatC nt))]
theorem pbA_len {k : Bk} (i : Nat) (hi : i ≤ k.notes.length) : (pbA k i).length ≤ (bytesA k).length := by
  unfold pbA bytesA
  simp only [List.length_append]
  have : k.notes = k.notes.take i ++ k.notes.drop i := (List.take_append_drop i _).symm
  have h2 : ((k.notes.take i).flatMap fun l => numsE (flatC l)).length ≤ (k.notes.flatMap fun l => numsE (flatC l)).length := by
    conv => rhs; rw [this]
    rw [List.flatMap_append, List.length_append]; omega
  omega
section
variable {w : World}
set_option maxHeartbeats 8000000 in
theorem ry_Bytes {B b : Nat} {v : Sl} {hs : List (Int × Sl)} {k : Bk} (h : RbAt w B b v hs k) (hid : ∀ l ∈ k.notes, ∀ c ∈ l, c.id < 9223372036854775808) (hsm : ∀ l ∈ k.notes, l.length ≤ 1000) : Calls Try.prog 12 #[.pointer (some ⟨b, 0, none⟩)] w fun e w' =>
    e = .returned (.string (str (bytesA k))) ∧ Keeps w w' none_ := by
  have hn := own_nS h.own
  have g := h.good
  have g1 := g.ns; have g2 := g.s0; have g3 := g.s1; have g4 := g.nk; have g5 := g.k1; have g6 := g.k0
  have hbl := bytesA_len k g hsm hid
  obtain ⟨a, n, c⟩ := v
  obtain rfl : n = hs.length := hn
  have hl := h.hl
  have ha : At w b 0 [.int .i64 k.kept, .int .i64 k.state, .slice a hs.length c] := h.var.at
  have hown : w.ownsRow B 67 2 (.slice a hs.length c) hs.length (hs.flatMap noC) := h.own
  refine calls_of_vc (args := [.pointer (some ⟨b, 0, none⟩)]) Try.func12 rfl (Nat.le_of_ble_eq_true rfl) ?_; refine Sat.go hmix ?_; conv => whnf
  refine KGO ?_
  refine Draw.held (fun u => Keeps w u none_) (fun _ => true) (by decide +kernel) (Keeps.refl _ _).drew ?_
  refine KGO ?_
  have hkt : k.kept = ((k.kept.toNat : Nat) : Int) := by omega
  have hft : firstA k = (((firstA k).toNat : Nat) : Int) := by unfold firstA; omega
  have hfb : (firstA k).toNat < 2 ^ 63 := by unfold firstA; omega
  have n1 := numE_len (show k.kept.toNat < 2 ^ 63 by omega)
  have n2 := numE_len hfb
  have n3 := numE_len (show hs.length < 2 ^ 63 by omega)
  rw [hkt]
  refine CallS.of (Try.call35 _ _) (rf_Num02 k.kept.toNat (by omega)) ?_
  rintro e w1 ⟨rfl, k1⟩
  refine ⟨_, rfl, ?_⟩; (first | refine Then.go hmix ?_ | refine Sat.go hmix ?_ | refine ResK.go ?_ | skip); conv => whnf
  have K1 : Keeps w w1 none_ := (Keeps.refl w none_).drew.trans0 k1
  refine ⟨K1, ?_⟩
  (first | refine Then.go hmix ?_ | refine Sat.go hmix ?_ | refine ResK.go ?_ | skip); conv => whnf
  refine CallS.of (Try.call21 _ _) (ry_First (h.keep0 K1)) ?_
  rintro e w2 ⟨rfl, k2⟩
  refine ⟨_, rfl, ?_⟩; (first | refine Then.go hmix ?_ | refine Sat.go hmix ?_ | refine ResK.go ?_ | skip); conv => whnf
  have K2 := K1.trans0 k2
  refine ⟨K2, ?_⟩
  (first | refine Then.go hmix ?_ | refine Sat.go hmix ?_ | refine ResK.go ?_ | skip); conv => whnf
  rw [hft]
  refine CallS.of (Try.call35 _ _) (rf_Num02 (firstA k).toNat hfb) ?_
  rintro e w3 ⟨rfl, k3⟩
  refine ⟨_, rfl, ?_⟩; (first | refine Then.go hmix ?_ | refine Sat.go hmix ?_ | refine ResK.go ?_ | skip); conv => whnf
  have K3 := K2.trans0 k3
  refine ⟨K3, ?_⟩
  (first | refine Then.go hmix ?_ | refine Sat.go hmix ?_ | refine ResK.go ?_ | skip); conv => whnf
  have z1 : (str (numE k.kept.toNat)).size = (numE k.kept.toNat).length := rfl
  have z2 : (str (numE (firstA k).toNat)).size = (numE (firstA k).toNat).length := rfl
  have z12 : (str (numE k.kept.toNat) ++ str (numE (firstA k).toNat)).size = (numE k.kept.toNat).length + (numE (firstA k).toNat).length := by rw [ByteArray.size_append, z1, z2]
  have z3 : (str (numE hs.length)).size = (numE hs.length).length := rfl
  refine RunV.cat (by omega) ?_
  refine KGO ?_
  refine CallS.of (Try.call35 _ _) (rf_Num02 hs.length (by omega)) ?_
  rintro e w4 ⟨rfl, k4⟩
  refine ⟨_, rfl, ?_⟩; (first | refine Then.go hmix ?_ | refine Sat.go hmix ?_ | refine ResK.go ?_ | skip); conv => whnf
  have K4 := K3.trans0 k4
  refine ⟨K4, ?_⟩
  (first | refine Then.go hmix ?_ | refine Sat.go hmix ?_ | refine ResK.go ?_ | skip); conv => whnf
  refine RunV.cat (by omega) ?_
  refine KGO ?_
  have hcat0 : str (numE k.kept.toNat) ++ str (numE (firstA k).toNat) ++ str (numE hs.length) = str (pbA k 0) := by rw [pbA_0, ← hl, str_append, str_append]
  refine Loop.intro (ι := Nat) (fun i => [(0, .pointer (some ⟨b, 0, none⟩)), (3, .string (str (pbA k i))), (4, .int .i64 (i : Nat))])
    (fun i wr => Keeps w wr none_ ∧ i ≤ hs.length) (fun i => hs.length - i) 0 ⟨rfl, v_str hcat0, rfl, trivial⟩ ⟨K4, by omega⟩ ?_
  clear z1 z2 z12 z3 n1 n2 n3 hcat0
  rintro i gf wr ⟨hK, hi⟩
  (first | refine Then.go hmix ?_ | refine Sat.go hmix ?_ | refine ResK.go ?_ | skip); conv => whnf
  by_cases hlt : i < hs.length
  · obtain ⟨gb, e1, _, hgb, hat⟩ := own_at hown (by omega)
    subst e1
    have hati := at_row hat lenNo hlt
    have hrow := (h.row i hlt).2
    obtain ⟨nt, hnte⟩ : ∃ nt, k.notes[i]'(by omega) = nt := ⟨_, rfl⟩
    rw [hnte] at hrow
    have hxn := own_nS hrow
    obtain ⟨x, hx⟩ : ∃ x, hs[i] = x := ⟨_, rfl⟩
    rw [hx] at hrow hxn hati
    obtain ⟨z, xa, xn, xc⟩ := x
    obtain rfl : xn = nt.length := hxn
    have hrow : w.ownsRow B 48 3 (.slice xa nt.length xc) nt.length (nt.flatMap chC) := hrow
    have hc1 : w.cell? ⟨gb, 0 + i * 2 + 1, none⟩ = some (.slice xa nt.length xc) := hati 1 _ rfl
    have hnt : nt ∈ k.notes := by rw [← hnte]; exact List.getElem_mem _
    have hfin := g.fine nt hnt
    have hidn := hid nt hnt
    have hln := hsm nt hnt
    have hstep := pbA_step (show i < k.notes.length by omega) hnte
    have hpl := pbA_len (k := k) (i + 1) (by omega)
    have hpl0 := congrArg List.length hstep
    rw [List.length_append] at hpl0
    refine KGO ?_
    refine Loop.intro (ι := Nat × Option Addr × Nat) (fun j => [(0, .pointer (some ⟨b, 0, none⟩)), (3, .string (str (pbA k i))), (4, .int .i64 (i : Nat)), (5, .slice j.2.1 (3 * j.1) j.2.2), (6, .int .i64 (j.1 : Nat))])
      (fun j wq => Keeps w wq none_ ∧ j.1 ≤ nt.length ∧ wq.ownsRow w.heap.size 3 1 (.slice j.2.1 (3 * j.1) j.2.2) (3 * j.1) ((iL (flatC (nt.take j.1))).flatMap inC)) (fun j => nt.length - j.1) (0, none, 0) ⟨rfl, rfl, rfl, rfl, rfl, trivial⟩ ⟨hK, by omega, World.ownsRow_nil _ _ _ _⟩ ?_
    rintro ⟨j, na, nc⟩ gg wq ⟨hKq, hj, hni⟩
    dsimp only at hj hni ⊢
    (first | refine Then.go hmix ?_ | refine Sat.go hmix ?_ | refine ResK.go ?_ | skip); conv => whnf
    by_cases hlj : j < nt.length
    · obtain ⟨gx, e1, _, hgx, hatx⟩ := own_at hrow (by omega)
      subst e1
      obtain ⟨f1, f2, f3, f4, f5⟩ := fine_nat (hfin nt[j] (List.getElem_mem hlj))
      have f6 := hidn nt[j] (List.getElem_mem hlj)
      have hnx : flatC (nt.take (j + 1)) = flatC (nt.take j) ++ [nt[j].of.toNat, nt[j].id.toNat, nt[j].what.toNat] := by rw [List.take_succ_eq_append_getElem hlj, flatC_app]
      have hfl := flatC_len (nt.take j)
      rw [List.length_take] at hfl
      refine KGO ?_
      refine Store.fresh (vs := chC nt[j]) (by rfl) rfl (flat_of (by rfl)) ?_
      have a_bc := at_fresh wq 48 (chC nt[j])
      have k_wa : Keeps wq (wq.alloc (.cells (List.toArray (chC nt[j])) 48)) none_ := (Keeps.refl _ _).alloc _
      have z_wa : (wq.alloc (.cells (List.toArray (chC nt[j])) 48)).heap.size = wq.heap.size + 1 := by simp
      generalize wq.alloc (.cells (List.toArray (chC nt[j])) 48) = wa at *
      generalize hs_bc : wq.heap.size = bc at *
      refine KGO ?_
      refine RunV.of (bs3I _ _ _ _) ?_
      have kb : Keeps wa (wa.alloc (.cells (List.toArray [.int .i64 nt[j].of, .int .i64 nt[j].id, .int .i64 nt[j].what]) 3)) none_ := (Keeps.refl _ _).alloc _
      have hbf := at_fresh wa 3 [.int .i64 nt[j].of, .int .i64 nt[j].id, .int .i64 nt[j].what]
      have ob := own_keep0 hni (k_wa.trans0 kb)
      generalize wa.alloc (.cells (List.toArray [.int .i64 nt[j].of, .int .i64 nt[j].id, .int .i64 nt[j].what]) 3) = wb at *
      generalize wa.heap.size = gb5 at *
      have Kb := (hKq.trans0 k_wa).trans0 kb
      refine KGO ?_
      have h3j : 3 * j = (iL (flatC (nt.take j))).length := by rw [iL_len]; omega
      have hnew : iL (flatC (nt.take j)) ++ [nt[j].of, nt[j].id, nt[j].what] = iL (flatC (nt.take (j + 1))) := by
        rw [hnx]; simp only [iL, List.map_append, List.map_cons, List.map_nil, f1, f2, f3]
      have ob' : OwnR 3 inC 1 wb w.heap.size (.slice na (3 * j) nc) (iL (flatC (nt.take j))) := by
        unfold OwnR; rw [← h3j]; exact ob
      refine tyI.app (m := 3) [nt[j].of, nt[j].id, nt[j].what] ob' Kb.size rfl (fun _ => ⟨_, _, rfl, hbf⟩) (by simp; omega) (by simp; omega) fun v7 w7 o7 k7 => ?_
      rw [hnew] at o7
      have h3j2 : (iL (flatC (nt.take (j + 1)))).length = 3 * (j + 1) := by rw [iL_len, flatC_len, List.length_take]; omega
      unfold OwnR at o7
      rw [h3j2] at o7
      obtain ⟨a7, c7, rfl⟩ := own_shape o7
      have K7 := own_leC ob k7 Kb (Nat.le_refl _)
      refine KGO ?_
      exact ⟨(j + 1, a7, c7), ⟨rfl, rfl, rfl, rfl, v_int (by simp), trivial⟩, ⟨K7, by omega, o7⟩, by dsimp only; omega⟩
    · refine KGO ?_
      have hjn : j = nt.length := by omega
      subst hjn
      rw [List.take_length] at hni
      have hfn := flatC_len nt
      have hni' : OwnI wq w.heap.size (.slice na (3 * nt.length) nc) (iL (flatC nt)) := by
        show wq.ownsRow _ _ _ _ (iL (flatC nt)).length _
        rw [iL_len, hfn]; exact hni
      have hfb2 := flatC_bound hfin hidn
      refine CallS.of (Try.call36 _ _) (rf_Nums02 (flatC nt) (row_of_own hni' rfl) hfb2 (by omega)) ?_
      rintro e w8 ⟨rfl, k8⟩
      refine ⟨_, rfl, ?_⟩; (first | refine Then.go hmix ?_ | refine Sat.go hmix ?_ | refine ResK.go ?_ | skip); conv => whnf
      have z1 : (str (pbA k i)).size = (pbA k i).length := rfl
      have z2 : (str (numsE (flatC nt))).size = (numsE (flatC nt)).length := rfl
      refine RunV.cat (by omega) ?_
      refine KGO ?_
      exact ⟨i + 1, ⟨rfl, v_str (by rw [hstep, str_append]), v_int (by simp), trivial⟩, ⟨hKq.trans0 k8, by omega⟩, by dsimp only; omega⟩
  · have hin : i = hs.length := by omega
    subst hin
    refine KGO ?_
    exact ⟨by rw [hl, pbA_end], hK⟩
end
end Go.Proofs.Ytcplagfblmemhaa

namespace Go.Cs
set_option linter.unusedVariables false
open Go.Lib
set_option linter.unusedVariables false
def hasS (l : List Sc) (nm : List UInt8) : Bool := l.any fun s => decide (s.name = nm)
def AscS (l : List Sc) : Prop := l.Pairwise fun a b => ltT a.name b.name = true
end Go.Cs

namespace Go.Cs
set_option linter.unusedVariables false
open Go.Lib
set_option linter.unusedVariables false
end Go.Cs

namespace Go.Cs
set_option linter.unusedVariables false
open Go.Lib
set_option linter.unusedVariables false
def lastB (A : Acc) : Bool := match A.boxes.getLast? with | none => true | some b => decide (b.id < A.nb)
def srcB (s : Sc) : Bool := scB s.name && decide (s.text.length ≤ 32768)
end Go.Cs

namespace Go.Cs
set_option linter.unusedVariables false
open Go.Lib
set_option linter.unusedVariables false
/-! ### What every account has that New and Apply make -/
abbrev M40 : Int := 1099511627776
structure FitP (A : Acc) (m : Ml) : Prop where
  id : 1 ≤ m.id ∧ m.id ≤ A.nm - 1
  ne : m.boxes ≠ []
  asc : AscB ltI m.boxes
  there : ∀ b ∈ m.boxes, hasId A.boxes b = true
  fl : m.flags.length ≤ 20
  fasc : AscB ltT m.flags
  fok : ∀ f ∈ m.flags, flagB f = true
  at_ : 0 ≤ m.at_ ∧ m.at_ ≤ M40
  size : 0 ≤ m.size ∧ m.size ≤ 65536
  mod : 0 ≤ m.mod ∧ m.mod ≤ A.st
structure GoodQ (A : Acc) : Prop where
  nm : 1 ≤ A.nm ∧ A.nm ≤ M40
  nb : 1 ≤ A.nb ∧ A.nb ≤ M40
  st : 0 ≤ A.st
  bx : RightP A.boxes
  bid : ∀ b ∈ A.boxes, b.id < A.nb
  ml : A.mails.length ≤ 4096
  asc : A.mails.Pairwise fun x y => x.id < y.id
  fit : ∀ m ∈ A.mails, FitP A m
  sl : A.scripts.length ≤ 16
  sasc : AscS A.scripts
  src : ∀ s ∈ A.scripts, srcB s = true
  nl : A.seen.length ≤ 256
  key : ∀ s ∈ A.seen, s.key.length ≤ 1000 ∧ 0 ≤ s.at_ ∧ s.at_ ≤ M40
  knd : (A.seen.map (·.key)).Nodup
  act : A.active = [] ∨ hasS A.scripts A.active = true
/-! ### The operations keep it -/
section
variable {A : Acc} {o : Opr}
theorem FitP.mono {A A' : Acc} {m : Ml} (h : FitP A m) (h1 : A.nm ≤ A'.nm) (h2 : A.st ≤ A'.st) (h3 : ∀ b, hasId A.boxes b = true → hasId A'.boxes b = true) : FitP A' m :=
  ⟨by have := h.id; omega, h.ne, h.asc, fun b hb => h3 b (h.there b hb), h.fl, h.fasc, h.fok, h.at_, h.size, by have := h.mod; omega⟩
theorem GoodQ.mails (g : GoodQ A) {l : List Ml} (h1 : l.length ≤ 4096) (h2 : l.Pairwise fun x y => x.id < y.id) (h3 : ∀ m ∈ l, FitP A m) : GoodQ { A with mails := l } :=
  ⟨g.nm, g.nb, g.st, g.bx, g.bid, h1, h2, fun m hm => (h3 m hm).mono (Int.le_refl _) (Int.le_refl _) fun _ h => h, g.sl, g.sasc, g.src, g.nl, g.key, g.knd, g.act⟩
theorem GoodQ.boxes (g : GoodQ A) {l : List Bx} (h1 : RightP l) (h2 : ∀ b ∈ l, b.id < A.nb) (h3 : ∀ i, hasId A.boxes i = true → hasId l i = true) : GoodQ { A with boxes := l } :=
  ⟨g.nm, g.nb, g.st, h1, h2, g.ml, g.asc, fun m hm => (g.fit m hm).mono (Int.le_refl _) (Int.le_refl _) h3, g.sl, g.sasc, g.src, g.nl, g.key, g.knd, g.act⟩
end
end Go.Cs

namespace Go.Cs
set_option linter.unusedVariables false
open Go.Lib
set_option linter.unusedVariables false
section
end
end Go.Cs

namespace Go.Cs
set_option linter.unusedVariables false
open Go.Lib
set_option linter.unusedVariables false
section
variable {A : Acc} {o : Opr} {r : Acc × Int}
theorem GoodQ.scripts (g : GoodQ A) {l : List Sc} (h1 : l.length ≤ 16) (h2 : AscS l) (h3 : ∀ s ∈ l, srcB s = true) (h4 : A.active = [] ∨ hasS l A.active = true) : GoodQ { A with scripts := l } :=
  ⟨g.nm, g.nb, g.st, g.bx, g.bid, g.ml, g.asc, fun m hm => (g.fit m hm).mono (Int.le_refl _) (Int.le_refl _) fun _ h => h, h1, h2, h3, g.nl, g.key, g.knd, h4⟩
end
end Go.Cs

-- alias Try
namespace Go.Proofs.Ytcplagfblmemhaa
set_option linter.unusedVariables false
open Go.Shelf Go.RowKit Go.Pw Go.Vc Go.Cs Go.Lib
set_option linter.unusedVariables false
set_option maxRecDepth 100000
section
variable {w : World}
set_option maxHeartbeats 1000000 in
theorem rf_SameInts {va vb : Value} (la lb : List Int) (ha : RowI w va la) (hb : RowI w vb lb) (hl : la.length ≤ 1000000) (hl2 : lb.length ≤ 1000000) :
    Calls Try.prog 59 #[va, vb] w fun e w' => e = .returned (.bool (decide (la = lb))) ∧ Keeps w w' none_ := by
  obtain ⟨a, ca, rfl, hra⟩ := ha
  obtain ⟨b, cb, rfl, hrb⟩ := hb
  refine calls_of_vc (args := [.slice a la.length ca, .slice b lb.length cb]) Try.func59 rfl (Nat.le_of_ble_eq_true rfl) ?_; refine Sat.go hmix ?_; conv => whnf
  by_cases hn : la.length = lb.length
  rotate_left
  · refine KGO ?_
    refine ⟨ret_bool ?_, Keeps.refl _ _⟩
    exact (decide_eq_false fun h => hn (by rw [h])).symm
  refine KGO ?_
  refine Loop.intro (ι := Nat) (fun i => [(0, .slice a la.length ca), (1, .slice b lb.length cb), (5, .int .i64 (i : Nat))])
    (fun i wr => Keeps w wr none_ ∧ i ≤ la.length ∧ la.take i = lb.take i) (fun i => la.length - i) 0 ⟨rfl, rfl, rfl, trivial⟩ ⟨Keeps.refl _ _, Nat.zero_le _, rfl⟩ ?_
  rintro i gg wr ⟨hK, hi, ht⟩
  (first | refine Then.go hmix ?_ | refine Sat.go hmix ?_ | refine ResK.go ?_ | skip); conv => whnf
  by_cases hlt : i < la.length
  · have hlt2 : i < lb.length := by omega
    obtain ⟨ga, oa, rfl, hga, hata⟩ := hra (by omega)
    obtain ⟨gb, ob, rfl, hgb, hatb⟩ := hrb (by omega)
    have ca := at_int hata hlt
    have cb := at_int hatb hlt2
    by_cases he : la[i] = lb[i]
    · rw [he] at ca
      refine KGO ?_
      exact ⟨i + 1, ⟨rfl, rfl, v_int (by simp), trivial⟩, ⟨hK.drew, by omega, by rw [List.take_succ_eq_append_getElem hlt, List.take_succ_eq_append_getElem hlt2, ht, he]⟩, by dsimp only; omega⟩
    · refine KGO ?_
      refine ⟨ret_bool ?_, hK.drew⟩
      exact (decide_eq_false fun h => he (by subst h; rfl)).symm
  · refine KGO ?_
    refine ⟨ret_bool ?_, hK⟩
    rw [List.take_of_length_le (by omega), List.take_of_length_le (by omega)] at ht
    exact (decide_eq_true ht).symm
end
end Go.Proofs.Ytcplagfblmemhaa
