/- Helper text of this claim: Cy8: lemmas and contracts that the proved statement rests on; no conditions of its own. -/
import Derived.Test.YtcplagfblmemhaaCy7
-- alias Try
namespace Go.Proofs.Ytcplagfblmemhaa
set_option linter.unusedVariables false
open Go.Shelf Go.RowKit Go.Pw Go.Vc Go.Cs Go.Lib Go.Cd Go.Cx
set_option linter.unusedVariables false
set_option maxRecDepth 100000
theorem noteA_all {p : List Chg → Prop} {k : Bk} {st : Int} {l : List Chg} (h : ∀ x ∈ k.notes, p x) (hl : p l) : ∀ x ∈ (noteA k st l).2.notes, p x := fun x hx => by
  unfold noteA at hx
  split at hx
  · exact h x hx
  split at hx
  · exact h x hx
  dsimp only at hx
  have hx : x ∈ k.notes ++ [l] := by
    split at hx
    · exact List.mem_of_mem_tail hx
    · exact hx
  rcases List.mem_append.1 hx with hx | hx
  · exact h x hx
  · rw [List.mem_singleton.1 hx]; exact hl
theorem noteA_st {k : Bk} {st : Int} {l : List Chg} : (noteA k st l).2.state = k.state ∨ (noteA k st l).2.state = k.state + 1 := by
  unfold noteA
  split
  · exact .inl rfl
  rename_i h
  split
  · exact .inl rfl
  · exact .inr (Classical.byContradiction fun e => h (.inr e))
theorem netA_len (cs : List Chg) (of : Int) (a b : Bool) : (netA cs of a b).length ≤ cs.length := by
  unfold netA
  exact Nat.le_trans (List.length_filter_le _ _) (ids_len of cs)
theorem since_len {k : Bk} (g : GoodB k) (hsm : ∀ l ∈ k.notes, l.length ≤ 1000) (st of : Int) : (sinceA k st of).1.made.length ≤ 1000000 ∧ (sinceA k st of).1.changed.length ≤ 1000000 ∧ (sinceA k st of).1.gone.length ≤ 1000000 := by
  have h := flat_le 1000 (k.notes.drop (st - firstA k).toNat) fun l hl => hsm l (List.mem_of_mem_drop hl)
  rw [List.length_drop] at h
  have g4 := g.nk; have g5 := g.k1
  have hh : (k.notes.drop (st - firstA k).toNat).flatten.length ≤ 1000000 := by omega
  unfold sinceA
  split
  · simp
  split
  · simp
  split
  · simp
  exact ⟨Nat.le_trans (netA_len _ _ _ _) hh, Nat.le_trans (netA_len _ _ _ _) hh, Nat.le_trans (netA_len _ _ _ _) hh⟩
theorem own_block_type {w : World} {B s n q : Nat} {e : TypeId} {v : Value} {xs : List Value} (h : w.ownsRow B e s v n xs) (hq : v.ownBlock = some q) : ∃ cs, VarK w q e cs := by
  rcases own_blockK h with ⟨rfl, _⟩ | ⟨g, cap, cells, rfl, _, hv, _⟩
  · cases hq
  · have e1 : g = q := by simpa [Value.ownBlock] using hq
    subst e1; exact ⟨_, hv⟩
theorem RbAt.note {w w' : World} {B nb B' nx : Nat} {v v' : Sl} {hs : List Sl} {hs' : List (Int × Sl)} {k k' : Bk} (hx : RbAt w B' nx v' hs' k') (hb : BkAt w B nb v hs k) (kk : Keeps w w' (fun q => q = nb ∨ v.v.ownBlock = some q)) : RbAt w' B' nx v' hs' k' :=
  hx.keep kk fun q e => by
    rcases e with rfl | e
    · exact hb.var.foreignR (by decide) (by decide) (by decide)
    · obtain ⟨cs, hc⟩ := own_block_type hb.own e
      exact hc.foreignR (by decide) (by decide) (by decide)
theorem BkAt.noteR {w w' : World} {B nb B' nx : Nat} {v v' : Sl} {hs : List Sl} {hs' : List (Int × Sl)} {k k' : Bk} (hb : BkAt w B nb v hs k) (hx : RbAt w B' nx v' hs' k') (kk : Keeps w w' (fun q => q = nx ∨ v'.v.ownBlock = some q)) : BkAt w' B nb v hs k :=
  hb.keep kk fun q e => by
    rcases e with rfl | e
    · exact hx.var.foreign (by decide) (by decide) (by decide)
    · obtain ⟨cs, hc⟩ := own_block_type hx.own e
      exact hc.foreign (by decide) (by decide) (by decide)
theorem at_slc_row {w : World} {L : List (Sl × List Chg)} (hp : ∀ p ∈ L, RowC w p.1.v p.2) {i : Nat} (hi : i < L.length) : RowC w (⟨L[i].1.a, L[i].2.length, L[i].1.c⟩ : Sl).v L[i].2 := by
  have h := hp L[i] (List.getElem_mem hi)
  have hn := rowC_n h
  rw [← hn]; exact h
section
variable {w : World}
set_option maxHeartbeats 16000000 in
theorem lw_Tells43 {v : Value} (L : List (Sl × List Chg)) (hv : RowO w v slcC L) (hp : ∀ p ∈ L, RowC w p.1.v p.2) (hl : L.length ≤ 17592186044416) (hid : ∀ p ∈ L, ∀ c ∈ p.2, c.id < 9223372036854775808)
    (state kept skip ask of : Int) (b1 : -9223372036854775808 ≤ state ∧ state ≤ 9223372036854775807) (b4 : -9223372036854775808 ≤ ask ∧ ask ≤ 9223372036854775807) (s : ByteArray) (hs : s.size ≤ 140737488355328) :
    Calls Try.prog 3 #[.int .i64 state, .int .i64 kept, v, .int .i64 skip, .int .i64 ask, .int .i64 of, .string s] w fun e w' => e = .returned (.bool true) ∧ Keeps w w' none_ := by
  have hv0 := hv
  obtain ⟨va, vcap, rfl, hr⟩ := hv
  refine calls_of_vc (args := [.int .i64 state, .int .i64 kept, .slice va L.length vcap, .int .i64 skip, .int .i64 ask, .int .i64 of, .string s]) Try.func3 rfl (Nat.le_of_ble_eq_true rfl) ?_; refine Sat.go hmix ?_; conv => whnf
  refine CallS.of (Try.call5 _ _) (lw_small43 (w := w)) ?_
  rintro e w1 ⟨rfl, k1⟩
  refine ⟨_, rfl, ?_⟩; (first | refine Then.go hmix ?_ | refine Sat.go hmix ?_ | refine ResK.go ?_ | skip); conv => whnf
  by_cases hbad : state < 0 ∨ kept < 1 ∨ 256 < kept
  · refine CallS.of (Try.call6 _ _) (cx_New state kept b1.2) ?_
    rintro e w2 (⟨_, rfl, k2⟩ | ⟨hno, _⟩)
    rotate_left
    · exact absurd hbad hno
    refine ⟨_, rfl, ?_⟩; (first | refine Then.go hmix ?_ | refine Sat.go hmix ?_ | refine ResK.go ?_ | skip); conv => whnf
    refine CallS.of (Try.call7 _ _) (ry_New state kept b1.2) ?_
    rintro e w3 (⟨_, rfl, k3⟩ | ⟨hno, _⟩)
    rotate_left
    · exact absurd hbad hno
    refine ⟨_, rfl, ?_⟩; (first | refine Then.go hmix ?_ | refine Sat.go hmix ?_ | refine ResK.go ?_ | skip); conv => whnf
    have K3 := (k1.trans0 k2).trans0 k3
    refine CallS.of (Try.call8 _ _) (lw_few43 L (hv0.keep K3) (fun p h => (hp p h).keep K3) hl) ?_
    rintro e w4 ⟨⟨q, rfl, hq⟩, k4⟩
    refine ⟨_, rfl, ?_⟩; (first | refine Then.go hmix ?_ | refine Sat.go hmix ?_ | refine ResK.go ?_ | skip); conv => whnf
    have K4 := K3.trans0 k4
    cases q with
    | false =>
      refine KGO ?_
      exact ⟨rfl, K4⟩
    | true =>
      refine KGO ?_
      by_cases hs1 : 1000 < s.size
      · refine KGO ?_
        exact ⟨rfl, K4⟩
      refine KGO ?_
      by_cases hst : 1125899906842624 < state
      · refine KGO ?_
        exact ⟨rfl, K4⟩
      refine KGO ?_
      refine CallS.of (Try.call9 _ _) (cx_Read s (by omega)) ?_
      rintro e w5 ⟨hR, k5⟩
      have K5 := K4.trans0 k5
      cases hra : readA (Go.Cs.L s) with
      | none =>
        rw [hra] at hR
        obtain rfl : e = .returned (.tuple #[.pointer none, .bool false]) := hR
        refine ⟨_, rfl, ?_⟩; (first | refine Then.go hmix ?_ | refine Sat.go hmix ?_ | refine ResK.go ?_ | skip); conv => whnf
        refine CallS.of (Try.call10 _ _) (ry_Read s (by omega)) ?_
        rintro e w6 ⟨hR2, k6⟩
        rw [hra] at hR2
        obtain rfl : e = .returned (.tuple #[.pointer none, .bool false]) := hR2
        refine ⟨_, rfl, ?_⟩; (first | refine Then.go hmix ?_ | refine Sat.go hmix ?_ | refine ResK.go ?_ | skip); conv => whnf
        have K8 := K5.trans0 k6
        refine KGO ?_
        exact ⟨rfl, K8⟩
      | some kk =>
        rw [hra] at hR
        obtain ⟨nc, vc, hc, rfl, hnc, hcb⟩ := hR
        refine ⟨_, rfl, ?_⟩; (first | refine Then.go hmix ?_ | refine Sat.go hmix ?_ | refine ResK.go ?_ | skip); conv => whnf
        refine CallS.of (Try.call10 _ _) (ry_Read s (by omega)) ?_
        rintro e w6 ⟨hR2, k6⟩
        rw [hra] at hR2
        obtain ⟨ny, vy, hy, rfl, hny, hyb⟩ := hR2
        refine ⟨_, rfl, ?_⟩; (first | refine Then.go hmix ?_ | refine Sat.go hmix ?_ | refine ResK.go ?_ | skip); conv => whnf
        have hcb := hcb.keep0 k6
        have hids := readA_ids hra
        have hsml : ∀ l ∈ kk.notes, l.length ≤ 1000 := fun l hl => by have := readA_small hra l hl; have : (Go.Cs.L s).length = s.size := rfl; omega
        refine KGO ?_
        refine CallS.of (Try.call11 _ _) (cx_Bytes hcb hids hsml) ?_
        rintro e w7 ⟨rfl, k7⟩
        refine ⟨_, rfl, ?_⟩; (first | refine Then.go hmix ?_ | refine Sat.go hmix ?_ | refine ResK.go ?_ | skip); conv => whnf
        refine KGO ?_
        refine CallS.of (Try.call12 _ _) (ry_Bytes (hyb.keep0 k7) hids hsml) ?_
        rintro e w8 ⟨rfl, k8⟩
        refine ⟨_, rfl, ?_⟩; (first | refine Then.go hmix ?_ | refine Sat.go hmix ?_ | refine ResK.go ?_ | skip); conv => whnf
        have K8 := ((K5.trans0 k6).trans0 k7).trans0 k8
        clear hcb hyb hids hsml hra
        refine KGO ?_
        exact ⟨rfl, K8⟩
  · refine CallS.of (Try.call6 _ _) (cx_New state kept b1.2) ?_
    rintro e w2 (⟨hno, _⟩ | ⟨_, rfl, hb, k2⟩)
    · exact absurd hno hbad
    refine ⟨_, rfl, ?_⟩; (first | refine Then.go hmix ?_ | refine Sat.go hmix ?_ | refine ResK.go ?_ | skip); conv => whnf
    refine CallS.of (Try.call7 _ _) (ry_New state kept b1.2) ?_
    rintro e w3 (⟨hno, _⟩ | ⟨_, rfl, hx, k3⟩)
    · exact absurd hno hbad
    refine ⟨_, rfl, ?_⟩; (first | refine Then.go hmix ?_ | refine Sat.go hmix ?_ | refine ResK.go ?_ | skip); conv => whnf
    obtain ⟨nb, hnb⟩ : ∃ nb, w1.heap.size = nb := ⟨_, rfl⟩
    obtain ⟨nx, hnx⟩ : ∃ nx, w2.heap.size = nx := ⟨_, rfl⟩
    rw [hnb] at hb ⊢
    rw [hnx] at hx ⊢
    have hnbw : w.heap.size ≤ nb := by have := k1.size; omega
    have hnxw : w.heap.size ≤ nx := by have := k1.size; have := k2.size; omega
    have hb : BkAt w3 w.heap.size nb ⟨none, 0, 0⟩ [] ⟨state, kept, []⟩ := ⟨hb.var.keep0 k3, World.ownsRow_nil _ _ _ _, hb.hl, fun i hi => absurd hi (Nat.not_lt_zero i), hb.good⟩
    have hx : RbAt w3 w.heap.size nx ⟨none, 0, 0⟩ [] ⟨state, kept, []⟩ := ⟨hx.var, World.ownsRow_nil _ _ _ _, hx.hl, fun i hi => absurd hi (Nat.not_lt_zero i), hx.good⟩
    have K3 := (k1.trans0 k2).trans0 k3
    refine CallS.of (Try.call8 _ _) (lw_few43 L (hv0.keep K3) (fun p h => (hp p h).keep K3) hl) ?_
    rintro e w4 ⟨⟨q, rfl, hq⟩, k4⟩
    refine ⟨_, rfl, ?_⟩; (first | refine Then.go hmix ?_ | refine Sat.go hmix ?_ | refine ResK.go ?_ | skip); conv => whnf
    have K4 := K3.trans0 k4
    have hb := hb.keep0 k4
    have hx := hx.keep0 k4
    cases q with
    | false =>
      refine KGO ?_
      exact ⟨rfl, K4⟩
    | true =>
      obtain ⟨hL40, hL20⟩ := hq rfl
      refine KGO ?_
      by_cases hs1 : 1000 < s.size
      · refine KGO ?_
        exact ⟨rfl, K4⟩
      refine KGO ?_
      by_cases hst : 1125899906842624 < state
      · refine KGO ?_
        exact ⟨rfl, K4⟩
      refine KGO ?_
      refine CallS.of (Try.call9 _ _) (cx_Read s (by omega)) ?_
      rintro e w5 ⟨hR, k5⟩
      have K5 := K4.trans0 k5
      cases hra : readA (Go.Cs.L s) with
      | none =>
        rw [hra] at hR
        obtain rfl : e = .returned (.tuple #[.pointer none, .bool false]) := hR
        refine ⟨_, rfl, ?_⟩; (first | refine Then.go hmix ?_ | refine Sat.go hmix ?_ | refine ResK.go ?_ | skip); conv => whnf
        refine CallS.of (Try.call10 _ _) (ry_Read s (by omega)) ?_
        rintro e w6 ⟨hR2, k6⟩
        rw [hra] at hR2
        obtain rfl : e = .returned (.tuple #[.pointer none, .bool false]) := hR2
        refine ⟨_, rfl, ?_⟩; (first | refine Then.go hmix ?_ | refine Sat.go hmix ?_ | refine ResK.go ?_ | skip); conv => whnf
        have K8 := K5.trans0 k6
        have hb := hb.keep0 (k5.trans0 k6)
        have hx := hx.keep0 (k5.trans0 k6)
        refine KGO ?_
        refine Loop.intro (ι := Nat × Bk) (fun i => [(2, .slice va L.length vcap), (3, .int .i64 skip), (4, .int .i64 ask), (5, .int .i64 of), (15, .bool true), (16, .pointer (some ⟨nb, 0, none⟩)), (17, .pointer (some ⟨nx, 0, none⟩)), (22, .int .i64 (i.1 : Nat))])
          (fun i wr => Keeps w wr none_ ∧ i.1 ≤ L.length ∧ (∃ v hs, BkAt wr w.heap.size nb v hs i.2) ∧ (∃ v hs, RbAt wr w.heap.size nx v hs i.2) ∧ (∀ l ∈ i.2.notes, l.length ≤ 1000 ∧ ∀ c ∈ l, c.id < 9223372036854775808) ∧ i.2.state ≤ 1125899906842624 + i.1) (fun i => L.length - i.1) (0, ⟨state, kept, []⟩) ⟨rfl, rfl, rfl, rfl, rfl, rfl, rfl, rfl, trivial⟩
          ⟨K8, by omega, ⟨_, _, hb⟩, ⟨_, _, hx⟩, (fun l h => by cases h), by dsimp only; omega⟩ ?_
        clear hb hx hbad
        rintro ⟨i, k⟩ gf wr ⟨hK, hi, ⟨v, hs1, hb⟩, ⟨vx, hsx, hx⟩, hsm, hks⟩
        dsimp only at hi hb hx hsm hks ⊢
        (first | refine Then.go hmix ?_ | refine Sat.go hmix ?_ | refine ResK.go ?_ | skip); conv => whnf
        by_cases hlt : i < L.length
        · have g0 := hb.good.s0
          have hrow := at_slc_row hp hlt
          have hL20i := hL20 L[i] (List.getElem_mem hlt)
          have hidi := hid L[i] (List.getElem_mem hlt)
          obtain ⟨gL, oL, rfl, hgL, hatL⟩ := hr (by omega)
          have hcL := at_slc hatL hlt
          have hnL := rowC_n (hp L[i] (List.getElem_mem hlt))
          rw [hnL] at hcL
          obtain ⟨l, hLi⟩ : ∃ l, L[i].2 = l := ⟨_, rfl⟩
          obtain ⟨la, hla⟩ : ∃ la, L[i].1.a = la := ⟨_, rfl⟩
          obtain ⟨lc, hlc⟩ : ∃ lc, L[i].1.c = lc := ⟨_, rfl⟩
          rw [hLi, hla, hlc] at hrow hcL
          rw [hLi] at hL20i hidi
          refine KGO ?_
          refine CallS.of (Try.call13 _ _) (cx_State hb) ?_
          rintro e w9 ⟨rfl, k9⟩
          refine ⟨_, rfl, ?_⟩; (first | refine Then.go hmix ?_ | refine Sat.go hmix ?_ | refine ResK.go ?_ | skip); conv => whnf
          have hb := hb.keep0 k9
          have hx := hx.keep0 k9
          have K9 := hK.trans0 k9
          obtain ⟨at_, hat_, hbd⟩ : ∃ at_ : Int, (at_ = if (i : Int) = skip then k.state + 1 + 1 else k.state + 1) ∧ at_ ≤ 2251799813685248 ∧ 0 ≤ at_ := ⟨_, rfl, by split <;> omega⟩
          by_cases hsk : (i : Int) = skip
          · rw [if_pos hsk] at hat_
            refine KGO ?_
            rw [← hat_]
            have hcall := cx_Note (vl := ⟨la, l.length, lc⟩) hb K9.size at_ (by omega) (by omega) l (hrow.keep K9) (by omega)
            refine CallS.of (Try.call14 _ _) hcall ?_
            rintro e w10 ⟨rfl, ⟨v10, hs10, hb10⟩, k10⟩
            refine ⟨_, rfl, ?_⟩; (first | refine Then.go hmix ?_ | refine Sat.go hmix ?_ | refine ResK.go ?_ | skip); conv => whnf
            have hx10 := hx.note hb k10
            have K10 := note_keeps hb hnbw K9 k10
            refine KGO ?_
            have hcall := ry_Note (vl := ⟨la, l.length, lc⟩) hx10 K10.size at_ (by omega) (by omega) l (hrow.keep K10) (by omega)
            refine CallS.of (Try.call15 _ _) hcall ?_
            rintro e w11 ⟨rfl, ⟨v11, hs11, hx11⟩, k11⟩
            refine ⟨_, rfl, ?_⟩; (first | refine Then.go hmix ?_ | refine Sat.go hmix ?_ | refine ResK.go ?_ | skip); conv => whnf
            have hb11 := hb10.noteR hx10 k11
            have K11 := noteR_keeps hx10 hnxw K10 k11
            have hsm2 : ∀ x ∈ (noteA k at_ l).2.notes, x.length ≤ 1000 ∧ ∀ c ∈ x, c.id < 9223372036854775808 := noteA_all hsm ⟨by omega, hidi⟩
            have hst2 := noteA_st (k := k) (st := at_) (l := l)
            obtain ⟨er, k2, hne⟩ : ∃ er k2, noteA k at_ l = (er, k2) := ⟨_, _, rfl⟩
            rw [hne] at hb11 hx11 hsm2 hst2 ⊢
            dsimp only at hb11 hx11 hsm2 hst2 ⊢
            have hsl := since_len hb11.good (fun x h => (hsm2 x h).1) ask of
            refine KGO ?_
            refine CallS.of (Try.call16 _ _) (cx_Since hb11 (fun x h => (hsm2 x h).1) ask of b4) ?_
            rintro e w12 ⟨⟨m1, c1, g1, rfl, om1, oc1, og1⟩, k12⟩
            refine ⟨_, rfl, ?_⟩; (first | refine Then.go hmix ?_ | refine Sat.go hmix ?_ | refine ResK.go ?_ | skip); conv => whnf
            obtain ⟨d, er2, hne2⟩ : ∃ d er2, sinceA k2 ask of = (d, er2) := ⟨_, _, rfl⟩
            rw [hne2] at om1 oc1 og1 hsl ⊢
            dsimp only at om1 oc1 og1 hsl ⊢
            refine Store.fresh (vs := dlC m1 c1 g1 d.state) (by rfl) rfl (flat_of (by rfl)) ?_
            have a_b13 := at_fresh w12 40 (dlC m1 c1 g1 d.state)
            have k_w13 : Keeps w12 (w12.alloc (.cells (List.toArray (dlC m1 c1 g1 d.state)) 40)) none_ := (Keeps.refl _ _).alloc _
            have z_w13 : (w12.alloc (.cells (List.toArray (dlC m1 c1 g1 d.state)) 40)).heap.size = w12.heap.size + 1 := by simp
            generalize w12.alloc (.cells (List.toArray (dlC m1 c1 g1 d.state)) 40) = w13 at *
            generalize hs_b13 : w12.heap.size = b13 at *
            refine KGO ?_
            have k11_13 := k12.trans0 k_w13
            refine CallS.of (Try.call17 _ _) (ry_Since (hx11.keep0 k11_13) (fun x h => (hsm2 x h).1) ask of b4) ?_
            rintro e w14 ⟨⟨m2, c2, g2, rfl, om2, oc2, og2⟩, k14⟩
            rw [hne2] at om2 oc2 og2 ⊢
            dsimp only at om2 oc2 og2 ⊢
            refine ⟨_, rfl, ?_⟩; (first | refine Then.go hmix ?_ | refine Sat.go hmix ?_ | refine ResK.go ?_ | skip); conv => whnf
            refine Store.fresh (vs := dlC m2 c2 g2 d.state) (by rfl) rfl (flat_of (by rfl)) ?_
            have a_b15 := at_fresh w14 40 (dlC m2 c2 g2 d.state)
            have k_w15 : Keeps w14 (w14.alloc (.cells (List.toArray (dlC m2 c2 g2 d.state)) 40)) none_ := (Keeps.refl _ _).alloc _
            have z_w15 : (w14.alloc (.cells (List.toArray (dlC m2 c2 g2 d.state)) 40)).heap.size = w14.heap.size + 1 := by simp
            generalize w14.alloc (.cells (List.toArray (dlC m2 c2 g2 d.state)) 40) = w15 at *
            generalize hs_b15 : w14.heap.size = b15 at *
            have k13_15 := k14.trans0 k_w15
            have k11_15 := k11_13.trans0 k13_15
            have K15 := K11.trans0 k11_15
            have a_b13 := at_mono a_b13 k13_15
            have q15 := Keeps.refl w15 none_
            have hb15 := hb11.keep0 k11_15
            have hx15 := hx11.keep0 k11_15
            refine KGO ?_
            have k12_15 := k_w13.trans0 k13_15
            have hsame := ry_Same (w := w15) d ((row_of_own om1 rfl).keep k12_15) ((row_of_own oc1 rfl).keep k12_15) ((row_of_own og1 rfl).keep k12_15) ((row_of_own om2 rfl).keep k_w15) ((row_of_own oc2 rfl).keep k_w15) ((row_of_own og2 rfl).keep k_w15) hsl.1 hsl.2.1 hsl.2.2
            refine CallS.of (Try.call18 _ _) hsame ?_
            rintro e w16 ⟨rfl, k16⟩
            refine ⟨_, rfl, ?_⟩; (first | refine Then.go hmix ?_ | refine Sat.go hmix ?_ | refine ResK.go ?_ | skip); conv => whnf
            have hb16 := hb15.keep0 k16
            have hx16 := hx15.keep0 k16
            refine KGO ?_
            refine CallS.of (Try.call13 _ _) (cx_State hb16) ?_
            rintro e w17 ⟨rfl, k17⟩
            refine ⟨_, rfl, ?_⟩; (first | refine Then.go hmix ?_ | refine Sat.go hmix ?_ | refine ResK.go ?_ | skip); conv => whnf
            have hb17 := hb16.keep0 k17
            have hx17 := hx16.keep0 k17
            refine KGO ?_
            refine CallS.of (Try.call19 _ _) (ry_State hx17) ?_
            rintro e w18 ⟨rfl, k18⟩
            refine ⟨_, rfl, ?_⟩; (first | refine Then.go hmix ?_ | refine Sat.go hmix ?_ | refine ResK.go ?_ | skip); conv => whnf
            have hb18 := hb17.keep0 k18
            have hx18 := hx17.keep0 k18
            refine KGO ?_
            refine CallS.of (Try.call20 _ _) (cx_First hb18) ?_
            rintro e w19 ⟨rfl, k19⟩
            refine ⟨_, rfl, ?_⟩; (first | refine Then.go hmix ?_ | refine Sat.go hmix ?_ | refine ResK.go ?_ | skip); conv => whnf
            have hb19 := hb18.keep0 k19
            have hx19 := hx18.keep0 k19
            refine KGO ?_
            refine CallS.of (Try.call21 _ _) (ry_First hx19) ?_
            rintro e w20 ⟨rfl, k20⟩
            refine ⟨_, rfl, ?_⟩; (first | refine Then.go hmix ?_ | refine Sat.go hmix ?_ | refine ResK.go ?_ | skip); conv => whnf
            have hb20 := hb19.keep0 k20
            have hx20 := hx19.keep0 k20
            refine KGO ?_
            refine CallS.of (Try.call11 _ _) (cx_Bytes hb20 (fun x h => (hsm2 x h).2) (fun x h => (hsm2 x h).1)) ?_
            rintro e w21 ⟨rfl, k21⟩
            refine ⟨_, rfl, ?_⟩; (first | refine Then.go hmix ?_ | refine Sat.go hmix ?_ | refine ResK.go ?_ | skip); conv => whnf
            have hb21 := hb20.keep0 k21
            have hx21 := hx20.keep0 k21
            refine KGO ?_
            refine CallS.of (Try.call12 _ _) (ry_Bytes hx21 (fun x h => (hsm2 x h).2) (fun x h => (hsm2 x h).1)) ?_
            rintro e w22 ⟨rfl, k22⟩
            refine ⟨_, rfl, ?_⟩; (first | refine Then.go hmix ?_ | refine Sat.go hmix ?_ | refine ResK.go ?_ | skip); conv => whnf
            have hb22 := hb21.keep0 k22
            have hx22 := hx21.keep0 k22
            have K22 := ((((((K15.trans0 k16).trans0 k17).trans0 k18).trans0 k19).trans0 k20).trans0 k21).trans0 k22
            refine KGO ?_
            exact ⟨(i + 1, k2), ⟨rfl, rfl, rfl, rfl, rfl, rfl, rfl, v_int (by simp), trivial⟩, ⟨K22, by dsimp only; omega, ⟨_, _, hb22⟩, ⟨_, _, hx22⟩, hsm2, by dsimp only; omega⟩, by dsimp only; omega⟩
          · rw [if_neg hsk] at hat_
            refine KGO ?_
            rw [← hat_]
            have hcall := cx_Note (vl := ⟨la, l.length, lc⟩) hb K9.size at_ (by omega) (by omega) l (hrow.keep K9) (by omega)
            refine CallS.of (Try.call14 _ _) hcall ?_
            rintro e w10 ⟨rfl, ⟨v10, hs10, hb10⟩, k10⟩
            refine ⟨_, rfl, ?_⟩; (first | refine Then.go hmix ?_ | refine Sat.go hmix ?_ | refine ResK.go ?_ | skip); conv => whnf
            have hx10 := hx.note hb k10
            have K10 := note_keeps hb hnbw K9 k10
            refine KGO ?_
            have hcall := ry_Note (vl := ⟨la, l.length, lc⟩) hx10 K10.size at_ (by omega) (by omega) l (hrow.keep K10) (by omega)
            refine CallS.of (Try.call15 _ _) hcall ?_
            rintro e w11 ⟨rfl, ⟨v11, hs11, hx11⟩, k11⟩
            refine ⟨_, rfl, ?_⟩; (first | refine Then.go hmix ?_ | refine Sat.go hmix ?_ | refine ResK.go ?_ | skip); conv => whnf
            have hb11 := hb10.noteR hx10 k11
            have K11 := noteR_keeps hx10 hnxw K10 k11
            have hsm2 : ∀ x ∈ (noteA k at_ l).2.notes, x.length ≤ 1000 ∧ ∀ c ∈ x, c.id < 9223372036854775808 := noteA_all hsm ⟨by omega, hidi⟩
            have hst2 := noteA_st (k := k) (st := at_) (l := l)
            obtain ⟨er, k2, hne⟩ : ∃ er k2, noteA k at_ l = (er, k2) := ⟨_, _, rfl⟩
            rw [hne] at hb11 hx11 hsm2 hst2 ⊢
            dsimp only at hb11 hx11 hsm2 hst2 ⊢
            have hsl := since_len hb11.good (fun x h => (hsm2 x h).1) ask of
            refine KGO ?_
            refine CallS.of (Try.call16 _ _) (cx_Since hb11 (fun x h => (hsm2 x h).1) ask of b4) ?_
            rintro e w12 ⟨⟨m1, c1, g1, rfl, om1, oc1, og1⟩, k12⟩
            refine ⟨_, rfl, ?_⟩; (first | refine Then.go hmix ?_ | refine Sat.go hmix ?_ | refine ResK.go ?_ | skip); conv => whnf
            obtain ⟨d, er2, hne2⟩ : ∃ d er2, sinceA k2 ask of = (d, er2) := ⟨_, _, rfl⟩
            rw [hne2] at om1 oc1 og1 hsl ⊢
            dsimp only at om1 oc1 og1 hsl ⊢
            refine Store.fresh (vs := dlC m1 c1 g1 d.state) (by rfl) rfl (flat_of (by rfl)) ?_
            have a_b13 := at_fresh w12 40 (dlC m1 c1 g1 d.state)
            have k_w13 : Keeps w12 (w12.alloc (.cells (List.toArray (dlC m1 c1 g1 d.state)) 40)) none_ := (Keeps.refl _ _).alloc _
            have z_w13 : (w12.alloc (.cells (List.toArray (dlC m1 c1 g1 d.state)) 40)).heap.size = w12.heap.size + 1 := by simp
            generalize w12.alloc (.cells (List.toArray (dlC m1 c1 g1 d.state)) 40) = w13 at *
            generalize hs_b13 : w12.heap.size = b13 at *
            refine KGO ?_
            have k11_13 := k12.trans0 k_w13
            refine CallS.of (Try.call17 _ _) (ry_Since (hx11.keep0 k11_13) (fun x h => (hsm2 x h).1) ask of b4) ?_
            rintro e w14 ⟨⟨m2, c2, g2, rfl, om2, oc2, og2⟩, k14⟩
            rw [hne2] at om2 oc2 og2 ⊢
            dsimp only at om2 oc2 og2 ⊢
            refine ⟨_, rfl, ?_⟩; (first | refine Then.go hmix ?_ | refine Sat.go hmix ?_ | refine ResK.go ?_ | skip); conv => whnf
            refine Store.fresh (vs := dlC m2 c2 g2 d.state) (by rfl) rfl (flat_of (by rfl)) ?_
            have a_b15 := at_fresh w14 40 (dlC m2 c2 g2 d.state)
            have k_w15 : Keeps w14 (w14.alloc (.cells (List.toArray (dlC m2 c2 g2 d.state)) 40)) none_ := (Keeps.refl _ _).alloc _
            have z_w15 : (w14.alloc (.cells (List.toArray (dlC m2 c2 g2 d.state)) 40)).heap.size = w14.heap.size + 1 := by simp
            generalize w14.alloc (.cells (List.toArray (dlC m2 c2 g2 d.state)) 40) = w15 at *
            generalize hs_b15 : w14.heap.size = b15 at *
            have k13_15 := k14.trans0 k_w15
            have k11_15 := k11_13.trans0 k13_15
            have K15 := K11.trans0 k11_15
            have a_b13 := at_mono a_b13 k13_15
            have q15 := Keeps.refl w15 none_
            have hb15 := hb11.keep0 k11_15
            have hx15 := hx11.keep0 k11_15
            refine KGO ?_
            have k12_15 := k_w13.trans0 k13_15
            have hsame := ry_Same (w := w15) d ((row_of_own om1 rfl).keep k12_15) ((row_of_own oc1 rfl).keep k12_15) ((row_of_own og1 rfl).keep k12_15) ((row_of_own om2 rfl).keep k_w15) ((row_of_own oc2 rfl).keep k_w15) ((row_of_own og2 rfl).keep k_w15) hsl.1 hsl.2.1 hsl.2.2
            refine CallS.of (Try.call18 _ _) hsame ?_
            rintro e w16 ⟨rfl, k16⟩
            refine ⟨_, rfl, ?_⟩; (first | refine Then.go hmix ?_ | refine Sat.go hmix ?_ | refine ResK.go ?_ | skip); conv => whnf
            have hb16 := hb15.keep0 k16
            have hx16 := hx15.keep0 k16
            refine KGO ?_
            refine CallS.of (Try.call13 _ _) (cx_State hb16) ?_
            rintro e w17 ⟨rfl, k17⟩
            refine ⟨_, rfl, ?_⟩; (first | refine Then.go hmix ?_ | refine Sat.go hmix ?_ | refine ResK.go ?_ | skip); conv => whnf
            have hb17 := hb16.keep0 k17
            have hx17 := hx16.keep0 k17
            refine KGO ?_
            refine CallS.of (Try.call19 _ _) (ry_State hx17) ?_
            rintro e w18 ⟨rfl, k18⟩
            refine ⟨_, rfl, ?_⟩; (first | refine Then.go hmix ?_ | refine Sat.go hmix ?_ | refine ResK.go ?_ | skip); conv => whnf
            have hb18 := hb17.keep0 k18
            have hx18 := hx17.keep0 k18
            refine KGO ?_
            refine CallS.of (Try.call20 _ _) (cx_First hb18) ?_
            rintro e w19 ⟨rfl, k19⟩
            refine ⟨_, rfl, ?_⟩; (first | refine Then.go hmix ?_ | refine Sat.go hmix ?_ | refine ResK.go ?_ | skip); conv => whnf
            have hb19 := hb18.keep0 k19
            have hx19 := hx18.keep0 k19
            refine KGO ?_
            refine CallS.of (Try.call21 _ _) (ry_First hx19) ?_
            rintro e w20 ⟨rfl, k20⟩
            refine ⟨_, rfl, ?_⟩; (first | refine Then.go hmix ?_ | refine Sat.go hmix ?_ | refine ResK.go ?_ | skip); conv => whnf
            have hb20 := hb19.keep0 k20
            have hx20 := hx19.keep0 k20
            refine KGO ?_
            refine CallS.of (Try.call11 _ _) (cx_Bytes hb20 (fun x h => (hsm2 x h).2) (fun x h => (hsm2 x h).1)) ?_
            rintro e w21 ⟨rfl, k21⟩
            refine ⟨_, rfl, ?_⟩; (first | refine Then.go hmix ?_ | refine Sat.go hmix ?_ | refine ResK.go ?_ | skip); conv => whnf
            have hb21 := hb20.keep0 k21
            have hx21 := hx20.keep0 k21
            refine KGO ?_
            refine CallS.of (Try.call12 _ _) (ry_Bytes hx21 (fun x h => (hsm2 x h).2) (fun x h => (hsm2 x h).1)) ?_
            rintro e w22 ⟨rfl, k22⟩
            refine ⟨_, rfl, ?_⟩; (first | refine Then.go hmix ?_ | refine Sat.go hmix ?_ | refine ResK.go ?_ | skip); conv => whnf
            have hb22 := hb21.keep0 k22
            have hx22 := hx21.keep0 k22
            have K22 := ((((((K15.trans0 k16).trans0 k17).trans0 k18).trans0 k19).trans0 k20).trans0 k21).trans0 k22
            refine KGO ?_
            exact ⟨(i + 1, k2), ⟨rfl, rfl, rfl, rfl, rfl, rfl, rfl, v_int (by simp), trivial⟩, ⟨K22, by dsimp only; omega, ⟨_, _, hb22⟩, ⟨_, _, hx22⟩, hsm2, by dsimp only; omega⟩, by dsimp only; omega⟩
        · refine KGO ?_
          exact ⟨rfl, hK⟩
      | some kk =>
        rw [hra] at hR
        obtain ⟨nc, vc, hc, rfl, hnc, hcb⟩ := hR
        refine ⟨_, rfl, ?_⟩; (first | refine Then.go hmix ?_ | refine Sat.go hmix ?_ | refine ResK.go ?_ | skip); conv => whnf
        refine CallS.of (Try.call10 _ _) (ry_Read s (by omega)) ?_
        rintro e w6 ⟨hR2, k6⟩
        rw [hra] at hR2
        obtain ⟨ny, vy, hy, rfl, hny, hyb⟩ := hR2
        refine ⟨_, rfl, ?_⟩; (first | refine Then.go hmix ?_ | refine Sat.go hmix ?_ | refine ResK.go ?_ | skip); conv => whnf
        have hcb := hcb.keep0 k6
        have hids := readA_ids hra
        have hsml : ∀ l ∈ kk.notes, l.length ≤ 1000 := fun l hl => by have := readA_small hra l hl; have : (Go.Cs.L s).length = s.size := rfl; omega
        refine KGO ?_
        refine CallS.of (Try.call11 _ _) (cx_Bytes hcb hids hsml) ?_
        rintro e w7 ⟨rfl, k7⟩
        refine ⟨_, rfl, ?_⟩; (first | refine Then.go hmix ?_ | refine Sat.go hmix ?_ | refine ResK.go ?_ | skip); conv => whnf
        refine KGO ?_
        refine CallS.of (Try.call12 _ _) (ry_Bytes (hyb.keep0 k7) hids hsml) ?_
        rintro e w8 ⟨rfl, k8⟩
        refine ⟨_, rfl, ?_⟩; (first | refine Then.go hmix ?_ | refine Sat.go hmix ?_ | refine ResK.go ?_ | skip); conv => whnf
        have K8 := ((K5.trans0 k6).trans0 k7).trans0 k8
        clear hcb hyb hids hsml hra
        have hb := hb.keep0 (((k5.trans0 k6).trans0 k7).trans0 k8)
        have hx := hx.keep0 (((k5.trans0 k6).trans0 k7).trans0 k8)
        refine KGO ?_
        refine Loop.intro (ι := Nat × Bk) (fun i => [(2, .slice va L.length vcap), (3, .int .i64 skip), (4, .int .i64 ask), (5, .int .i64 of), (15, .bool true), (16, .pointer (some ⟨nb, 0, none⟩)), (17, .pointer (some ⟨nx, 0, none⟩)), (22, .int .i64 (i.1 : Nat))])
          (fun i wr => Keeps w wr none_ ∧ i.1 ≤ L.length ∧ (∃ v hs, BkAt wr w.heap.size nb v hs i.2) ∧ (∃ v hs, RbAt wr w.heap.size nx v hs i.2) ∧ (∀ l ∈ i.2.notes, l.length ≤ 1000 ∧ ∀ c ∈ l, c.id < 9223372036854775808) ∧ i.2.state ≤ 1125899906842624 + i.1) (fun i => L.length - i.1) (0, ⟨state, kept, []⟩) ⟨rfl, rfl, rfl, rfl, rfl, rfl, rfl, rfl, trivial⟩
          ⟨K8, by omega, ⟨_, _, hb⟩, ⟨_, _, hx⟩, (fun l h => by cases h), by dsimp only; omega⟩ ?_
        clear hb hx hbad
        rintro ⟨i, k⟩ gf wr ⟨hK, hi, ⟨v, hs1, hb⟩, ⟨vx, hsx, hx⟩, hsm, hks⟩
        dsimp only at hi hb hx hsm hks ⊢
        (first | refine Then.go hmix ?_ | refine Sat.go hmix ?_ | refine ResK.go ?_ | skip); conv => whnf
        by_cases hlt : i < L.length
        · have g0 := hb.good.s0
          have hrow := at_slc_row hp hlt
          have hL20i := hL20 L[i] (List.getElem_mem hlt)
          have hidi := hid L[i] (List.getElem_mem hlt)
          obtain ⟨gL, oL, rfl, hgL, hatL⟩ := hr (by omega)
          have hcL := at_slc hatL hlt
          have hnL := rowC_n (hp L[i] (List.getElem_mem hlt))
          rw [hnL] at hcL
          obtain ⟨l, hLi⟩ : ∃ l, L[i].2 = l := ⟨_, rfl⟩
          obtain ⟨la, hla⟩ : ∃ la, L[i].1.a = la := ⟨_, rfl⟩
          obtain ⟨lc, hlc⟩ : ∃ lc, L[i].1.c = lc := ⟨_, rfl⟩
          rw [hLi, hla, hlc] at hrow hcL
          rw [hLi] at hL20i hidi
          refine KGO ?_
          refine CallS.of (Try.call13 _ _) (cx_State hb) ?_
          rintro e w9 ⟨rfl, k9⟩
          refine ⟨_, rfl, ?_⟩; (first | refine Then.go hmix ?_ | refine Sat.go hmix ?_ | refine ResK.go ?_ | skip); conv => whnf
          have hb := hb.keep0 k9
          have hx := hx.keep0 k9
          have K9 := hK.trans0 k9
          obtain ⟨at_, hat_, hbd⟩ : ∃ at_ : Int, (at_ = if (i : Int) = skip then k.state + 1 + 1 else k.state + 1) ∧ at_ ≤ 2251799813685248 ∧ 0 ≤ at_ := ⟨_, rfl, by split <;> omega⟩
          by_cases hsk : (i : Int) = skip
          · rw [if_pos hsk] at hat_
            refine KGO ?_
            rw [← hat_]
            have hcall := cx_Note (vl := ⟨la, l.length, lc⟩) hb K9.size at_ (by omega) (by omega) l (hrow.keep K9) (by omega)
            refine CallS.of (Try.call14 _ _) hcall ?_
            rintro e w10 ⟨rfl, ⟨v10, hs10, hb10⟩, k10⟩
            refine ⟨_, rfl, ?_⟩; (first | refine Then.go hmix ?_ | refine Sat.go hmix ?_ | refine ResK.go ?_ | skip); conv => whnf
            have hx10 := hx.note hb k10
            have K10 := note_keeps hb hnbw K9 k10
            refine KGO ?_
            have hcall := ry_Note (vl := ⟨la, l.length, lc⟩) hx10 K10.size at_ (by omega) (by omega) l (hrow.keep K10) (by omega)
            refine CallS.of (Try.call15 _ _) hcall ?_
            rintro e w11 ⟨rfl, ⟨v11, hs11, hx11⟩, k11⟩
            refine ⟨_, rfl, ?_⟩; (first | refine Then.go hmix ?_ | refine Sat.go hmix ?_ | refine ResK.go ?_ | skip); conv => whnf
            have hb11 := hb10.noteR hx10 k11
            have K11 := noteR_keeps hx10 hnxw K10 k11
            have hsm2 : ∀ x ∈ (noteA k at_ l).2.notes, x.length ≤ 1000 ∧ ∀ c ∈ x, c.id < 9223372036854775808 := noteA_all hsm ⟨by omega, hidi⟩
            have hst2 := noteA_st (k := k) (st := at_) (l := l)
            obtain ⟨er, k2, hne⟩ : ∃ er k2, noteA k at_ l = (er, k2) := ⟨_, _, rfl⟩
            rw [hne] at hb11 hx11 hsm2 hst2 ⊢
            dsimp only at hb11 hx11 hsm2 hst2 ⊢
            have hsl := since_len hb11.good (fun x h => (hsm2 x h).1) ask of
            refine KGO ?_
            refine CallS.of (Try.call16 _ _) (cx_Since hb11 (fun x h => (hsm2 x h).1) ask of b4) ?_
            rintro e w12 ⟨⟨m1, c1, g1, rfl, om1, oc1, og1⟩, k12⟩
            refine ⟨_, rfl, ?_⟩; (first | refine Then.go hmix ?_ | refine Sat.go hmix ?_ | refine ResK.go ?_ | skip); conv => whnf
            obtain ⟨d, er2, hne2⟩ : ∃ d er2, sinceA k2 ask of = (d, er2) := ⟨_, _, rfl⟩
            rw [hne2] at om1 oc1 og1 hsl ⊢
            dsimp only at om1 oc1 og1 hsl ⊢
            refine Store.fresh (vs := dlC m1 c1 g1 d.state) (by rfl) rfl (flat_of (by rfl)) ?_
            have a_b13 := at_fresh w12 40 (dlC m1 c1 g1 d.state)
            have k_w13 : Keeps w12 (w12.alloc (.cells (List.toArray (dlC m1 c1 g1 d.state)) 40)) none_ := (Keeps.refl _ _).alloc _
            have z_w13 : (w12.alloc (.cells (List.toArray (dlC m1 c1 g1 d.state)) 40)).heap.size = w12.heap.size + 1 := by simp
            generalize w12.alloc (.cells (List.toArray (dlC m1 c1 g1 d.state)) 40) = w13 at *
            generalize hs_b13 : w12.heap.size = b13 at *
            refine KGO ?_
            have k11_13 := k12.trans0 k_w13
            refine CallS.of (Try.call17 _ _) (ry_Since (hx11.keep0 k11_13) (fun x h => (hsm2 x h).1) ask of b4) ?_
            rintro e w14 ⟨⟨m2, c2, g2, rfl, om2, oc2, og2⟩, k14⟩
            rw [hne2] at om2 oc2 og2 ⊢
            dsimp only at om2 oc2 og2 ⊢
            refine ⟨_, rfl, ?_⟩; (first | refine Then.go hmix ?_ | refine Sat.go hmix ?_ | refine ResK.go ?_ | skip); conv => whnf
            refine Store.fresh (vs := dlC m2 c2 g2 d.state) (by rfl) rfl (flat_of (by rfl)) ?_
            have a_b15 := at_fresh w14 40 (dlC m2 c2 g2 d.state)
            have k_w15 : Keeps w14 (w14.alloc (.cells (List.toArray (dlC m2 c2 g2 d.state)) 40)) none_ := (Keeps.refl _ _).alloc _
            have z_w15 : (w14.alloc (.cells (List.toArray (dlC m2 c2 g2 d.state)) 40)).heap.size = w14.heap.size + 1 := by simp
            generalize w14.alloc (.cells (List.toArray (dlC m2 c2 g2 d.state)) 40) = w15 at *
            generalize hs_b15 : w14.heap.size = b15 at *
            have k13_15 := k14.trans0 k_w15
            have k11_15 := k11_13.trans0 k13_15
            have K15 := K11.trans0 k11_15
            have a_b13 := at_mono a_b13 k13_15
            have q15 := Keeps.refl w15 none_
            have hb15 := hb11.keep0 k11_15
            have hx15 := hx11.keep0 k11_15
            refine KGO ?_
            have k12_15 := k_w13.trans0 k13_15
            have hsame := ry_Same (w := w15) d ((row_of_own om1 rfl).keep k12_15) ((row_of_own oc1 rfl).keep k12_15) ((row_of_own og1 rfl).keep k12_15) ((row_of_own om2 rfl).keep k_w15) ((row_of_own oc2 rfl).keep k_w15) ((row_of_own og2 rfl).keep k_w15) hsl.1 hsl.2.1 hsl.2.2
            refine CallS.of (Try.call18 _ _) hsame ?_
            rintro e w16 ⟨rfl, k16⟩
            refine ⟨_, rfl, ?_⟩; (first | refine Then.go hmix ?_ | refine Sat.go hmix ?_ | refine ResK.go ?_ | skip); conv => whnf
            have hb16 := hb15.keep0 k16
            have hx16 := hx15.keep0 k16
            refine KGO ?_
            refine CallS.of (Try.call13 _ _) (cx_State hb16) ?_
            rintro e w17 ⟨rfl, k17⟩
            refine ⟨_, rfl, ?_⟩; (first | refine Then.go hmix ?_ | refine Sat.go hmix ?_ | refine ResK.go ?_ | skip); conv => whnf
            have hb17 := hb16.keep0 k17
            have hx17 := hx16.keep0 k17
            refine KGO ?_
            refine CallS.of (Try.call19 _ _) (ry_State hx17) ?_
            rintro e w18 ⟨rfl, k18⟩
            refine ⟨_, rfl, ?_⟩; (first | refine Then.go hmix ?_ | refine Sat.go hmix ?_ | refine ResK.go ?_ | skip); conv => whnf
            have hb18 := hb17.keep0 k18
            have hx18 := hx17.keep0 k18
            refine KGO ?_
            refine CallS.of (Try.call20 _ _) (cx_First hb18) ?_
            rintro e w19 ⟨rfl, k19⟩
            refine ⟨_, rfl, ?_⟩; (first | refine Then.go hmix ?_ | refine Sat.go hmix ?_ | refine ResK.go ?_ | skip); conv => whnf
            have hb19 := hb18.keep0 k19
            have hx19 := hx18.keep0 k19
            refine KGO ?_
            refine CallS.of (Try.call21 _ _) (ry_First hx19) ?_
            rintro e w20 ⟨rfl, k20⟩
            refine ⟨_, rfl, ?_⟩; (first | refine Then.go hmix ?_ | refine Sat.go hmix ?_ | refine ResK.go ?_ | skip); conv => whnf
            have hb20 := hb19.keep0 k20
            have hx20 := hx19.keep0 k20
            refine KGO ?_
            refine CallS.of (Try.call11 _ _) (cx_Bytes hb20 (fun x h => (hsm2 x h).2) (fun x h => (hsm2 x h).1)) ?_
            rintro e w21 ⟨rfl, k21⟩
            refine ⟨_, rfl, ?_⟩; (first | refine Then.go hmix ?_ | refine Sat.go hmix ?_ | refine ResK.go ?_ | skip); conv => whnf
            have hb21 := hb20.keep0 k21
            have hx21 := hx20.keep0 k21
            refine KGO ?_
            refine CallS.of (Try.call12 _ _) (ry_Bytes hx21 (fun x h => (hsm2 x h).2) (fun x h => (hsm2 x h).1)) ?_
            rintro e w22 ⟨rfl, k22⟩
            refine ⟨_, rfl, ?_⟩; (first | refine Then.go hmix ?_ | refine Sat.go hmix ?_ | refine ResK.go ?_ | skip); conv => whnf
            have hb22 := hb21.keep0 k22
            have hx22 := hx21.keep0 k22
            have K22 := ((((((K15.trans0 k16).trans0 k17).trans0 k18).trans0 k19).trans0 k20).trans0 k21).trans0 k22
            refine KGO ?_
            exact ⟨(i + 1, k2), ⟨rfl, rfl, rfl, rfl, rfl, rfl, rfl, v_int (by simp), trivial⟩, ⟨K22, by dsimp only; omega, ⟨_, _, hb22⟩, ⟨_, _, hx22⟩, hsm2, by dsimp only; omega⟩, by dsimp only; omega⟩
          · rw [if_neg hsk] at hat_
            refine KGO ?_
            rw [← hat_]
            have hcall := cx_Note (vl := ⟨la, l.length, lc⟩) hb K9.size at_ (by omega) (by omega) l (hrow.keep K9) (by omega)
            refine CallS.of (Try.call14 _ _) hcall ?_
            rintro e w10 ⟨rfl, ⟨v10, hs10, hb10⟩, k10⟩
            refine ⟨_, rfl, ?_⟩; (first | refine Then.go hmix ?_ | refine Sat.go hmix ?_ | refine ResK.go ?_ | skip); conv => whnf
            have hx10 := hx.note hb k10
            have K10 := note_keeps hb hnbw K9 k10
            refine KGO ?_
            have hcall := ry_Note (vl := ⟨la, l.length, lc⟩) hx10 K10.size at_ (by omega) (by omega) l (hrow.keep K10) (by omega)
            refine CallS.of (Try.call15 _ _) hcall ?_
            rintro e w11 ⟨rfl, ⟨v11, hs11, hx11⟩, k11⟩
            refine ⟨_, rfl, ?_⟩; (first | refine Then.go hmix ?_ | refine Sat.go hmix ?_ | refine ResK.go ?_ | skip); conv => whnf
            have hb11 := hb10.noteR hx10 k11
            have K11 := noteR_keeps hx10 hnxw K10 k11
            have hsm2 : ∀ x ∈ (noteA k at_ l).2.notes, x.length ≤ 1000 ∧ ∀ c ∈ x, c.id < 9223372036854775808 := noteA_all hsm ⟨by omega, hidi⟩
            have hst2 := noteA_st (k := k) (st := at_) (l := l)
            obtain ⟨er, k2, hne⟩ : ∃ er k2, noteA k at_ l = (er, k2) := ⟨_, _, rfl⟩
            rw [hne] at hb11 hx11 hsm2 hst2 ⊢
            dsimp only at hb11 hx11 hsm2 hst2 ⊢
            have hsl := since_len hb11.good (fun x h => (hsm2 x h).1) ask of
            refine KGO ?_
            refine CallS.of (Try.call16 _ _) (cx_Since hb11 (fun x h => (hsm2 x h).1) ask of b4) ?_
            rintro e w12 ⟨⟨m1, c1, g1, rfl, om1, oc1, og1⟩, k12⟩
            refine ⟨_, rfl, ?_⟩; (first | refine Then.go hmix ?_ | refine Sat.go hmix ?_ | refine ResK.go ?_ | skip); conv => whnf
            obtain ⟨d, er2, hne2⟩ : ∃ d er2, sinceA k2 ask of = (d, er2) := ⟨_, _, rfl⟩
            rw [hne2] at om1 oc1 og1 hsl ⊢
            dsimp only at om1 oc1 og1 hsl ⊢
            refine Store.fresh (vs := dlC m1 c1 g1 d.state) (by rfl) rfl (flat_of (by rfl)) ?_
            have a_b13 := at_fresh w12 40 (dlC m1 c1 g1 d.state)
            have k_w13 : Keeps w12 (w12.alloc (.cells (List.toArray (dlC m1 c1 g1 d.state)) 40)) none_ := (Keeps.refl _ _).alloc _
            have z_w13 : (w12.alloc (.cells (List.toArray (dlC m1 c1 g1 d.state)) 40)).heap.size = w12.heap.size + 1 := by simp
            generalize w12.alloc (.cells (List.toArray (dlC m1 c1 g1 d.state)) 40) = w13 at *
            generalize hs_b13 : w12.heap.size = b13 at *
            refine KGO ?_
            have k11_13 := k12.trans0 k_w13
            refine CallS.of (Try.call17 _ _) (ry_Since (hx11.keep0 k11_13) (fun x h => (hsm2 x h).1) ask of b4) ?_
            rintro e w14 ⟨⟨m2, c2, g2, rfl, om2, oc2, og2⟩, k14⟩
            rw [hne2] at om2 oc2 og2 ⊢
            dsimp only at om2 oc2 og2 ⊢
            refine ⟨_, rfl, ?_⟩; (first | refine Then.go hmix ?_ | refine Sat.go hmix ?_ | refine ResK.go ?_ | skip); conv => whnf
            refine Store.fresh (vs := dlC m2 c2 g2 d.state) (by rfl) rfl (flat_of (by rfl)) ?_
            have a_b15 := at_fresh w14 40 (dlC m2 c2 g2 d.state)
            have k_w15 : Keeps w14 (w14.alloc (.cells (List.toArray (dlC m2 c2 g2 d.state)) 40)) none_ := (Keeps.refl _ _).alloc _
            have z_w15 : (w14.alloc (.cells (List.toArray (dlC m2 c2 g2 d.state)) 40)).heap.size = w14.heap.size + 1 := by simp
            generalize w14.alloc (.cells (List.toArray (dlC m2 c2 g2 d.state)) 40) = w15 at *
            generalize hs_b15 : w14.heap.size = b15 at *
            have k13_15 := k14.trans0 k_w15
            have k11_15 := k11_13.trans0 k13_15
            have K15 := K11.trans0 k11_15
            have a_b13 := at_mono a_b13 k13_15
            have q15 := Keeps.refl w15 none_
            have hb15 := hb11.keep0 k11_15
            have hx15 := hx11.keep0 k11_15
            refine KGO ?_
            have k12_15 := k_w13.trans0 k13_15
            have hsame := ry_Same (w := w15) d ((row_of_own om1 rfl).keep k12_15) ((row_of_own oc1 rfl).keep k12_15) ((row_of_own og1 rfl).keep k12_15) ((row_of_own om2 rfl).keep k_w15) ((row_of_own oc2 rfl).keep k_w15) ((row_of_own og2 rfl).keep k_w15) hsl.1 hsl.2.1 hsl.2.2
            refine CallS.of (Try.call18 _ _) hsame ?_
            rintro e w16 ⟨rfl, k16⟩
            refine ⟨_, rfl, ?_⟩; (first | refine Then.go hmix ?_ | refine Sat.go hmix ?_ | refine ResK.go ?_ | skip); conv => whnf
            have hb16 := hb15.keep0 k16
            have hx16 := hx15.keep0 k16
            refine KGO ?_
            refine CallS.of (Try.call13 _ _) (cx_State hb16) ?_
            rintro e w17 ⟨rfl, k17⟩
            refine ⟨_, rfl, ?_⟩; (first | refine Then.go hmix ?_ | refine Sat.go hmix ?_ | refine ResK.go ?_ | skip); conv => whnf
            have hb17 := hb16.keep0 k17
            have hx17 := hx16.keep0 k17
            refine KGO ?_
            refine CallS.of (Try.call19 _ _) (ry_State hx17) ?_
            rintro e w18 ⟨rfl, k18⟩
            refine ⟨_, rfl, ?_⟩; (first | refine Then.go hmix ?_ | refine Sat.go hmix ?_ | refine ResK.go ?_ | skip); conv => whnf
            have hb18 := hb17.keep0 k18
            have hx18 := hx17.keep0 k18
            refine KGO ?_
            refine CallS.of (Try.call20 _ _) (cx_First hb18) ?_
            rintro e w19 ⟨rfl, k19⟩
            refine ⟨_, rfl, ?_⟩; (first | refine Then.go hmix ?_ | refine Sat.go hmix ?_ | refine ResK.go ?_ | skip); conv => whnf
            have hb19 := hb18.keep0 k19
            have hx19 := hx18.keep0 k19
            refine KGO ?_
            refine CallS.of (Try.call21 _ _) (ry_First hx19) ?_
            rintro e w20 ⟨rfl, k20⟩
            refine ⟨_, rfl, ?_⟩; (first | refine Then.go hmix ?_ | refine Sat.go hmix ?_ | refine ResK.go ?_ | skip); conv => whnf
            have hb20 := hb19.keep0 k20
            have hx20 := hx19.keep0 k20
            refine KGO ?_
            refine CallS.of (Try.call11 _ _) (cx_Bytes hb20 (fun x h => (hsm2 x h).2) (fun x h => (hsm2 x h).1)) ?_
            rintro e w21 ⟨rfl, k21⟩
            refine ⟨_, rfl, ?_⟩; (first | refine Then.go hmix ?_ | refine Sat.go hmix ?_ | refine ResK.go ?_ | skip); conv => whnf
            have hb21 := hb20.keep0 k21
            have hx21 := hx20.keep0 k21
            refine KGO ?_
            refine CallS.of (Try.call12 _ _) (ry_Bytes hx21 (fun x h => (hsm2 x h).2) (fun x h => (hsm2 x h).1)) ?_
            rintro e w22 ⟨rfl, k22⟩
            refine ⟨_, rfl, ?_⟩; (first | refine Then.go hmix ?_ | refine Sat.go hmix ?_ | refine ResK.go ?_ | skip); conv => whnf
            have hb22 := hb21.keep0 k22
            have hx22 := hx21.keep0 k22
            have K22 := ((((((K15.trans0 k16).trans0 k17).trans0 k18).trans0 k19).trans0 k20).trans0 k21).trans0 k22
            refine KGO ?_
            exact ⟨(i + 1, k2), ⟨rfl, rfl, rfl, rfl, rfl, rfl, rfl, v_int (by simp), trivial⟩, ⟨K22, by dsimp only; omega, ⟨_, _, hb22⟩, ⟨_, _, hx22⟩, hsm2, by dsimp only; omega⟩, by dsimp only; omega⟩
        · refine KGO ?_
          exact ⟨rfl, hK⟩
end
end Go.Proofs.Ytcplagfblmemhaa
