/- Helper text of this claim: Cya, Cy9: lemmas and contracts that the proved statement rests on; no conditions of its own. -/
import Derived.Test.YtcplagfblmemhaaCy8
-- alias Try
namespace Go.Proofs.Ytcplagfblmemhaa
set_option linter.unusedVariables false
open Go.Shelf Go.RowKit Go.Pw Go.Vc Go.Cs Go.Lib Go.Cd Go.Cx
set_option linter.unusedVariables false
set_option maxRecDepth 100000
/-- A book beside another that is turned. -/
theorem BkAt.other {w w' : World} {B nb B' nc : Nat} {v vc : Sl} {hs hc : List Sl} {k k' : Bk} (hb : BkAt w B nb v hs k) (hcb : BkAt w B' nc vc hc k') (ne : nb ≠ nc) (no : ∀ q, v.v.ownBlock = some q → vc.v.ownBlock ≠ some q) (kk : Keeps w w' (fun q => q = nc ∨ vc.v.ownBlock = some q)) : BkAt w' B nb v hs k := by
  refine ⟨hb.var.keep kk fun e => ?_, own_keep hb.own kk fun q hq e => ?_, hb.hl, fun i hi => own_keep (hb.row i hi) kk fun q hq e => ?_, hb.good⟩
  · rcases e with e | e
    · exact ne e
    · exact own_foreignV hcb.own hb.var (by decide) e
  · rcases e with rfl | e
    · exact own_foreignV hb.own hcb.var (by decide) hq
    · exact no q hq e
  · rcases e with rfl | e
    · exact own_foreignV (hb.row i hi) hcb.var (by decide) hq
    · exact own_own_ne (hb.row i hi) hcb.own (by decide) hq e
section
variable {w : World}
set_option maxHeartbeats 4000000 in
theorem cx_NoteAt {B b : Nat} {v : Sl} {hs : List Sl} {k : Bk} (h : BkAt w B b v hs k) (hB : B ≤ w.heap.size) (st : Int) (hst : st ≤ 9223372036854775807) (hst0 : -9223372036854775808 ≤ st) (l : List Chg) {vl : Sl} (hv : RowC w vl.v l) (hll : l.length ≤ 1000000) :
    Calls Try.prog 14 #[.pointer (some ⟨b, 0, none⟩), .int .i64 st, vl.v] w fun e w' => e = .returned (.int .i64 (noteA k st l).1) ∧ (∃ v' hs', BkAt w' B b v' hs' (noteA k st l).2 ∧ ∀ q, v'.v.ownBlock = some q → v.v.ownBlock = some q ∨ w.heap.size ≤ q) ∧ Keeps w w' (fun q => q = b ∨ v.v.ownBlock = some q) := by
  have hv0 := hv
  have hgood := noteA_good (l := l) h.good hst
  have hn := own_nS h.own
  have g := h.good
  have g1 := g.ns; have g2 := g.s0; have g3 := g.s1; have g4 := g.nk; have g5 := g.k1; have g6 := g.k0
  obtain ⟨a, n, c⟩ := v
  obtain rfl : n = hs.length := hn
  have hl := h.hl
  have ha : At w b 0 [.int .i64 k.state, .int .i64 k.kept, .slice a hs.length c] := h.var.at
  obtain ⟨la, lcap, hle, hlr⟩ := hv
  obtain ⟨la', ln, lc⟩ := vl
  injection hle with e1 e2 e3
  subst e1; subst e2; subst e3
  have q := Keeps.refl w none_
  have kb : Keeps w w (fun q => q = b ∨ Value.ownBlock (.slice a hs.length c) = some q) := Keeps.refl _ _
  refine calls_of_vc (args := [.pointer (some ⟨b, 0, none⟩), .int .i64 st, .slice la' l.length lc]) Try.func14 rfl (Nat.le_of_ble_eq_true rfl) ?_; refine Sat.go hmix ?_; conv => whnf
  unfold noteA at hgood ⊢
  by_cases h1 : k.state = 9223372036854775807
  · rw [if_pos (.inl h1)]
    refine KGO ?_
    exact ⟨rfl, ⟨_, _, h, fun q hq => .inl hq⟩, kb⟩
  by_cases h2 : st = k.state + 1
  rotate_left
  · rw [if_pos (.inr h2)]
    refine KGO ?_
    exact ⟨rfl, ⟨_, _, h, fun q hq => .inl hq⟩, kb⟩
  rw [if_neg (fun e => e.elim h1 (fun e => e h2))] at hgood ⊢
  by_cases h3 : 65536 < l.length
  · rw [if_pos (.inl h3)]
    refine KGO ?_
    exact ⟨rfl, ⟨_, _, h, fun q hq => .inl hq⟩, kb⟩
  refine KGO ?_
  refine CallS.of (Try.call37 _ _) (cnf_Chg0 l 38 (fun c => !fineA c) hv0 hll (fun _ _ => rfl) (fun x _ w' _ => cx_notFine x)) ?_
  rintro e w1 ⟨rfl, k1⟩
  refine ⟨_, rfl, ?_⟩; (first | refine Then.go hmix ?_ | refine Sat.go hmix ?_ | refine ResK.go ?_ | skip); conv => whnf
  have hx1 := h.keep0 k1
  cases h4 : l.any fun c => !fineA c with
  | true =>
    rw [if_pos (.inr rfl)]
    refine KGO ?_
    exact ⟨rfl, ⟨_, _, hx1, fun q hq => .inl hq⟩, k1.of_none⟩
  | false =>
    rw [h4] at hgood
    rw [if_neg (fun e => e.elim h3 (fun e => by cases e))] at hgood ⊢
    refine KGO ?_
    have hv1 := hv0.keep k1
    have ob1 : Value.ownBlock (.slice a hs.length c) ≠ some b := own_foreignV hx1.own hx1.var (by decide)
    have hS : ∀ u, (Keeps w1 u (fun q => own_ (.slice a hs.length c) q ∨ q = b) ∧ u.cell? ⟨b, 2, none⟩ = some (.slice a hs.length c)) → u.cell? ⟨b, 2, none⟩ = some (.slice a hs.length c) := fun u hu => hu.2
    have c1 : w1.cell? ⟨b, 2, none⟩ = some (.slice a hs.length c) := hx1.var.at 2 _ rfl
    have hbl := hx1.var.lt
    refine Draw.heldEnd (fun u => Keeps w1 u (fun q => own_ (.slice a hs.length c) q ∨ q = b) ∧ u.cell? ⟨b, 2, none⟩ = some (.slice a hs.length c)) (fun _ => true) (by simp) (by decide +kernel) (by decide +kernel) ⟨(Keeps.refl _ _).drew, c1⟩ ?_
    refine KGO ?_
    refine Held.one (by rfl) (fun u hu => hu.2) ?_
    refine KGO ?_
    have kd := (Keeps.refl w1 none_).drew
    have hv2 := hv1.keep kd
    refine CallS.of (Try.call40 _ _) (cl_Chg l hv2 hll) ?_
    rintro e w2 ⟨v2, rfl, o2, k2⟩
    obtain ⟨a2, c2, rfl⟩ := own_shape o2
    refine ⟨_, rfl, ?_⟩; (first | refine Then.go hmix ?_ | refine Sat.go hmix ?_ | refine ResK.go ?_ | skip); conv => whnf
    have K2 : Keeps w1 w2 none_ := kd.trans0 k2
    refine ⟨⟨K2.of_none, (cell_mono c1 K2)⟩, ?_⟩
    (first | refine Then.go hmix ?_ | refine Sat.go hmix ?_ | refine ResK.go ?_ | skip); conv => whnf
    have hx2 := hx1.keep0 K2
    refine RunV.of (bs1Cl ⟨a2, l.length, c2⟩ _) ?_
    have k3 : Keeps w2 (w2.alloc (.cells (List.toArray (shC ⟨a2, l.length, c2⟩)) 37)) none_ := (Keeps.refl _ _).alloc _
    have h3' := at_fresh w2 37 (shC ⟨a2, l.length, c2⟩)
    have o3 := own_keep0 o2 k3
    generalize w2.alloc (.cells (List.toArray (shC ⟨a2, l.length, c2⟩)) 37) = w3 at *
    generalize w2.heap.size = g3' at *
    have K3 := K2.trans0 k3
    have hx3 := hx2.keep0 k3
    refine ⟨⟨K3.of_none, cell_mono c1 K3⟩, ?_⟩
    (first | refine Then.go hmix ?_ | refine Sat.go hmix ?_ | refine ResK.go ?_ | skip); conv => whnf
    have hsz : hs.length ≤ 256 := by omega
    have hB3 : B ≤ w3.heap.size := Nat.le_trans hB (Nat.le_trans k1.size K3.size)
    refine tyCl.app1At (⟨a2, l.length, c2⟩ : Sl) hx3.own hB3 h3' (by omega) (by omega) fun v4 w4 o4 k4 b4 => ?_
    have e4 : (hs ++ [(⟨a2, l.length, c2⟩ : Sl)]).length = hs.length + 1 := by simp
    unfold OwnR at o4
    rw [e4] at o4
    obtain ⟨a4, c4, rfl⟩ := own_shape o4
    have v4 := hx3.var.keep k4 (fun e => ob1 e)
    have sz3 : w.heap.size ≤ w3.heap.size := Nat.le_trans k1.size K3.size
    refine ⟨⟨(K3.of_none).trans' (k4.mono fun q _ e => .inl e), v4.at 2 _ rfl⟩, ?_⟩
    (first | refine Then.go hmix ?_ | refine Sat.go hmix ?_ | refine ResK.go ?_ | skip); conv => whnf
    refine Store.cellK (i := 0) v4 (by simp) (by rfl) ⟨rfl, by simp, by simp⟩ fun w5 v5 k5 => ?_
    refine ⟨⟨((K3.of_none).trans' (k4.mono fun q _ e => .inl e)).trans' (k5.mono fun q _ e => .inr e), v5.at 2 _ rfl⟩, ?_⟩
    (first | refine Then.go hmix ?_ | refine Sat.go hmix ?_ | refine ResK.go ?_ | skip); conv => whnf
    refine Store.cellK (i := 2) v5 (by simp) (by rfl) ⟨rfl, by simp, by simp⟩ fun w6 v6 k6 => ?_
    (first | refine Then.go hmix ?_ | refine Sat.go hmix ?_ | refine ResK.go ?_ | skip); conv => whnf
    have k56 := k5.trans' k6
    have K36 : Keeps w3 w6 (fun q => q = b ∨ Value.ownBlock (.slice a hs.length c) = some q) := (k4.mono fun q _ e => .inr e).trans' (k56.mono fun q _ e => .inl e)
    have ob4 : Value.ownBlock (.slice a4 (hs.length + 1) c4) ≠ some b := own_foreignV o4 v4 (by decide)
    have o6 := own_keep o4 k56 (fun q hq e => ob4 (by have e : q = b := e; rw [← e]; exact hq))
    have r6 := bk_rows hx3 K36
    have l6 := own_keep (own_base (B' := B) o3 (Nat.le_trans hB (Nat.le_trans k1.size (kd.size)))) K36 (fun q hq e => by
      rcases e with rfl | e
      · exact own_foreignV o3 hx3.var (by decide) hq
      · exact own_own_ne o3 hx3.own (by decide) hq e)
    have hK6 : Keeps w w6 (fun q => q = b ∨ Value.ownBlock (.slice a hs.length c) = some q) := ((k1.trans0 K3).of_none).trans' K36
    have bk6 : GoodB ⟨st, k.kept, k.notes ++ [l]⟩ → BkAt w6 B b ⟨a4, hs.length + 1, c4⟩ (hs ++ [⟨a2, l.length, c2⟩]) ⟨st, k.kept, k.notes ++ [l]⟩ := fun gd => by
      refine ⟨v6, ?_, by simp [hl], ?_, gd⟩
      · rw [e4]; exact o6
      · intro i hi
        rw [List.length_append, List.length_singleton] at hi
        by_cases hlt : i < hs.length
        · simp only [List.getElem_append_left hlt, List.getElem_append_left (show i < k.notes.length by omega)]
          exact r6 i hlt
        · have hii : i = hs.length := by omega
          subst hii
          simp only [List.getElem_append_right (Nat.le_refl _), List.getElem_append_right (show k.notes.length ≤ hs.length by omega), Nat.sub_self, show hs.length - k.notes.length = 0 by omega, List.getElem_singleton]
          exact l6
    have a6 : At w6 b 0 [.int .i64 st, .int .i64 k.kept, .slice a4 (hs.length + 1) c4] := v6.at
    have q6 := Keeps.refl w6 none_
    by_cases hk : k.kept < (k.notes.length + 1 : Nat)
    rotate_left
    · rw [if_neg hk] at hgood ⊢
      refine KGO ?_
      exact ⟨rfl, ⟨_, _, (bk6 hgood).keep0 q6.drew, fun q hq => b4.elim (fun e => .inl (e ▸ hq)) (fun e => .inr (by have e2 := e.symm.trans hq; injection e2 with e2; omega))⟩, hK6.trans0 q6.drew⟩
    rw [if_pos hk] at hgood ⊢
    rcases own_blockK o6 with ⟨_, h0⟩ | ⟨gb, cap, cells, hve, hgB, hgv, hnc, hcm, hcl, htk⟩
    · omega
    injection hve with e1 e2 e3
    subst e1; subst e3
    refine KGO ?_
    refine Cut.fromI (l := 1) (by omega) (by omega) (by omega) ?_
    (first | refine Then.go hmix ?_ | refine Sat.go hmix ?_ | refine ResK.go ?_ | skip); conv => whnf
    rw [if_neg (show ¬ Int.toNat 1 = c4 by have : Int.toNat 1 = 1 := rfl; omega)]
    refine KGO ?_
    obtain ⟨H, hH⟩ : ∃ H, hs ++ [(⟨a2, l.length, c2⟩ : Sl)] = H := ⟨_, rfl⟩
    obtain ⟨M, hM⟩ : ∃ M, k.notes ++ [l] = M := ⟨_, rfl⟩
    have hHl : H.length = hs.length + 1 := by rw [← hH]; exact e4
    have hMl : M.length = hs.length + 1 := by rw [← hM]; simp [hl]
    have hrow : RowO w6.drew (.slice (some ⟨gb, 1, none⟩) hs.length (c4 - 1)) shC H.tail := by
      refine ⟨_, _, by rw [List.length_tail, hHl]; rfl, fun _ => ⟨gb, 1, rfl, hgv.lt, ?_⟩⟩
      have h0 : At w6 gb 0 (H.flatMap shC) := by
        have := (own_at o6 (by omega))
        obtain ⟨g', e1, e2, e3, e4⟩ := this
        injection e1 with e1; injection e1 with e1
        subst e1
        rw [hH] at e4; exact e4
      have h1 := at_dropR (s := 1) lenCl h0 1
      rw [List.drop_one] at h1
      exact at_mono h1 (Keeps.refl _ _).drew
    refine CallS.of (Try.call41 _ _) (cl_Cl H.tail hrow (by rw [List.length_tail]; omega)) ?_
    rintro e w7 ⟨v7, rfl, o7, k7⟩
    obtain ⟨a7, c7, rfl⟩ := own_shape o7
    refine ⟨_, rfl, ?_⟩; (first | refine Then.go hmix ?_ | refine Sat.go hmix ?_ | refine ResK.go ?_ | skip); conv => whnf
    have K67 : Keeps w6 w7 none_ := q6.drew.trans0 k7
    have v7 := v6.keep0 K67
    refine Store.cellK (i := 2) v7 (by simp) (by rfl) ⟨rfl, by simp, by simp⟩ fun w8 v8 k8 => ?_
    refine KGO ?_
    have ob7 : Value.ownBlock (.slice a7 H.tail.length c7) ≠ some b := own_foreignV o7 v7 (by decide)
    have hB7 : B ≤ w6.drew.heap.size := Nat.le_trans hB hK6.size
    refine ⟨rfl, ⟨⟨a7, H.tail.length, c7⟩, H.tail, ⟨v8, own_base (own_keep o7 k8 (fun q hq e => ob7 (by have e : q = b := e; rw [← e]; exact hq))) hB7, ?_, ?_, hgood⟩, fun q hq => .inr (by have := (o7.lt q hq).1; have := hK6.size; have : w6.drew.heap.size = w6.heap.size := rfl; omega)⟩, (hK6.trans0 K67).trans' (k8.mono fun q _ e => .inl e)⟩
    · have := hgood
      simp only [List.length_tail, hHl, hM, hMl]
    · intro i hi
      have bk := bk6
      have r8 : ∀ j (hj : j < H.length), w8.ownsRow B 48 3 H[j].v (M[j]'(by omega)).length ((M[j]'(by omega)).flatMap chC) := by
        intro j hj
        have r : w6.ownsRow B 48 3 H[j].v (M[j]'(by omega)).length ((M[j]'(by omega)).flatMap chC) := by
          subst hH; subst hM
          by_cases hlt : j < hs.length
          · simp only [List.getElem_append_left hlt, List.getElem_append_left (show j < k.notes.length by omega)]
            exact r6 j hlt
          · have hii : j = hs.length := by omega
            subst hii
            simp only [List.getElem_append_right (Nat.le_refl _), List.getElem_append_right (show k.notes.length ≤ hs.length by omega), Nat.sub_self, show hs.length - k.notes.length = 0 by omega, List.getElem_singleton]
            exact l6
        exact own_keep (own_keep0 r K67) k8 fun q hq e => own_foreignV (own_keep0 r K67) v7 (by decide) (by have e : q = b := e; rw [← e]; exact hq)
      rw [List.length_tail] at hi
      have := r8 (i + 1) (by omega)
      simp only [List.getElem_tail, hM]
      exact this
end
end Go.Proofs.Ytcplagfblmemhaa

-- alias Try
namespace Go.Proofs.Ytcplagfblmemhaa
set_option linter.unusedVariables false
open Go.Shelf Go.RowKit Go.Pw Go.Vc Go.Cs Go.Lib Go.Cd Go.Cx
set_option linter.unusedVariables false
set_option maxRecDepth 100000
theorem since_first {k : Bk} (g : GoodB k) {of : Int} (h1 : 1 ≤ of) (h3 : of ≤ 3) : ∃ d, sinceA k (firstA k) of = (d, 0) := by
  unfold sinceA
  have := g.ns
  rw [if_neg (by omega), if_neg (by unfold firstA; omega), if_neg (by omega)]
  exact ⟨_, rfl⟩
theorem since_old {k : Bk} (g : GoodB k) {of : Int} (h1 : 1 ≤ of) (h3 : of ≤ 3) : ∃ d, sinceA k (firstA k - 1) of = (d, 18) := by
  unfold sinceA
  rw [if_neg (by omega), if_neg (by unfold firstA; omega), if_pos (by omega)]
  exact ⟨_, rfl⟩
theorem since_now {k : Bk} (g : GoodB k) {of : Int} (h1 : 1 ≤ of) (h3 : of ≤ 3) : sinceA k k.state of = (⟨[], [], [], k.state⟩, 0) := by
  unfold sinceA
  rw [if_neg (by omega), if_neg (by omega), if_neg (by unfold firstA; omega)]
  have : (k.state - firstA k).toNat = k.notes.length := by unfold firstA; omega
  rw [this, List.drop_length]
  rfl
theorem noteA_cnt {k : Bk} {l : List Chg} {n : Nat} {kept : Int} (g : GoodB k) (hs : k.state = 7 + n) (hk : k.kept = kept) (hn : (k.notes.length : Int) = min (n : Int) kept) (hb : k.state < 9223372036854775807) :
    (noteA k (k.state + 1) l).2.kept = kept ∧ ((noteA k (k.state + 1) l).1 = 0 → (noteA k (k.state + 1) l).2.state = 7 + (n + 1 : Nat) ∧ ((noteA k (k.state + 1) l).2.notes.length : Int) = min ((n + 1 : Nat) : Int) kept) ∧
      ((noteA k (k.state + 1) l).1 ≠ 0 → (noteA k (k.state + 1) l).2 = k) := by
  have g1 := g.k0
  have g2 := g.nk
  unfold noteA
  rw [if_neg (fun e => by rcases e with e | e <;> omega)]
  split
  · exact ⟨hk, (fun e => absurd (show (1 : Int) = 0 from e) (by decide)), fun _ => rfl⟩
  · refine ⟨hk, fun _ => ⟨by dsimp only; omega, ?_⟩, fun e => absurd rfl e⟩
    dsimp only
    split
    · rw [List.length_tail, List.length_append, List.length_singleton]; omega
    · rw [List.length_append, List.length_singleton]; omega
theorem bytesA_len20 (k : Bk) (g : GoodB k) (hsm : ∀ l ∈ k.notes, l.length ≤ 20 ∧ ∀ c ∈ l, c.id < 9223372036854775808) : (bytesA k).length ≤ 30 + 600 * k.notes.length := by
  have g1 := g.ns; have g2 := g.s0; have g3 := g.s1; have g4 := g.nk; have g5 := g.k1; have g6 := g.k0
  have n1 := numE_len (show k.kept.toNat < 2 ^ 63 by omega)
  have n2 := numE_len (show (firstA k).toNat < 2 ^ 63 by unfold firstA; omega)
  have n3 := numE_len (show k.notes.length < 2 ^ 63 by omega)
  have n4 : ∀ (L : List (List Chg)), (∀ l ∈ L, (l.length ≤ 20 ∧ ∀ c ∈ l, c.id < 9223372036854775808) ∧ ∀ c ∈ l, fineA c = true) → (L.flatMap fun l => numsE (flatC l)).length ≤ 600 * L.length := by
    intro L
    induction L with
    | nil => intro _; simp
    | cons l L ih =>
      intro h
      have h1 := ih fun x hx => h x (List.mem_cons_of_mem _ hx)
      obtain ⟨⟨h2, h5⟩, h6⟩ := h l List.mem_cons_self
      have h3 := flatC_lenN l
      have h4 := numE_len (show (flatC l).length < 2 ^ 63 by omega)
      have h7 := numsE_len (flatC l) (flatC_bound h6 h5)
      have e : (numsE (flatC l)).length = (numE (flatC l).length).length + ((flatC l).flatMap numE).length := by unfold numsE; rw [List.length_append]
      rw [List.flatMap_cons, List.length_append, List.length_cons]
      omega
  have n5 := n4 k.notes fun l hl => ⟨hsm l hl, g.fine l hl⟩
  unfold bytesA
  simp only [List.length_append]
  omega
section
variable {w : World}
set_option maxHeartbeats 16000000 in
theorem lw_Back43 {v u : Value} (L : List (Sl × List Chg)) (hv : RowO w v slcC L) (hp : ∀ p ∈ L, RowC w p.1.v p.2) (hl : L.length ≤ 17592186044416) (hid : ∀ p ∈ L, ∀ c ∈ p.2, c.id < 9223372036854775808)
    (kept : Int) (M : List Chg) (hm : RowC w u M) (hml : M.length ≤ 17592186044416) (hmid : ∀ c ∈ M, c.id < 9223372036854775808) :
    Calls Try.prog 4 #[v, .int .i64 kept, u] w fun e w' => e = .returned (.bool true) ∧ Keeps w w' none_ := by
  have hv0 := hv
  have hm0 := hm
  obtain ⟨va, vcap, rfl, hr⟩ := hv
  obtain ⟨ma, mc, rfl, hmr⟩ := hm
  refine calls_of_vc (args := [.slice va L.length vcap, .int .i64 kept, .slice ma M.length mc]) Try.func4 rfl (Nat.le_of_ble_eq_true rfl) ?_; refine Sat.go hmix ?_; conv => whnf
  refine CallS.of (Try.call5 _ _) (lw_small43 (w := w)) ?_
  rintro e w1 ⟨rfl, k1⟩
  refine ⟨_, rfl, ?_⟩; (first | refine Then.go hmix ?_ | refine Sat.go hmix ?_ | refine ResK.go ?_ | skip); conv => whnf
  by_cases hbad : kept < 1 ∨ 256 < kept
  · refine CallS.of (Try.call6 _ _) (cx_New 7 kept (by decide)) ?_
    rintro e w2 (⟨_, rfl, k2⟩ | ⟨hno, _⟩)
    rotate_left
    · exact absurd (by omega) hno
    refine ⟨_, rfl, ?_⟩; (first | refine Then.go hmix ?_ | refine Sat.go hmix ?_ | refine ResK.go ?_ | skip); conv => whnf
    have K3 := k1.trans0 k2
    refine CallS.of (Try.call8 _ _) (lw_few43 L (hv0.keep K3) (fun p h => (hp p h).keep K3) hl) ?_
    rintro e w4 ⟨⟨q, rfl, hq⟩, k4⟩
    refine ⟨_, rfl, ?_⟩; (first | refine Then.go hmix ?_ | refine Sat.go hmix ?_ | refine ResK.go ?_ | skip); conv => whnf
    have K4 := K3.trans0 k4
    by_cases h1 : kept < 1
    · cases q with
      | false =>
        refine KGO ?_
        exact ⟨rfl, K4⟩
      | true =>
        by_cases hm20 : 20 < M.length
        · refine KGO ?_
          exact ⟨rfl, K4⟩
        · refine KGO ?_
          exact ⟨rfl, K4⟩
    · have h2 : decide (kept > 256) = true := decide_eq_true (by omega)
      cases q with
      | false =>
        refine KGO ?_
        exact ⟨ret_bool h2, K4⟩
      | true =>
        by_cases hm20 : 20 < M.length
        · refine KGO ?_
          exact ⟨ret_bool h2, K4⟩
        · refine KGO ?_
          exact ⟨ret_bool h2, K4⟩
  · refine CallS.of (Try.call6 _ _) (cx_New 7 kept (by decide)) ?_
    rintro e w2 (⟨hno, _⟩ | ⟨_, rfl, hb, k2⟩)
    · omega
    refine ⟨_, rfl, ?_⟩; (first | refine Then.go hmix ?_ | refine Sat.go hmix ?_ | refine ResK.go ?_ | skip); conv => whnf
    obtain ⟨nb, hnb⟩ : ∃ nb, w1.heap.size = nb := ⟨_, rfl⟩
    rw [hnb] at hb ⊢
    have hnbw : w.heap.size ≤ nb := by have := k1.size; omega
    have hb : BkAt w2 w.heap.size nb ⟨none, 0, 0⟩ [] ⟨7, kept, []⟩ := ⟨hb.var, World.ownsRow_nil _ _ _ _, hb.hl, fun i hi => absurd hi (Nat.not_lt_zero i), hb.good⟩
    have K2 := k1.trans0 k2
    refine CallS.of (Try.call8 _ _) (lw_few43 L (hv0.keep K2) (fun p h => (hp p h).keep K2) hl) ?_
    rintro e w4 ⟨⟨q, rfl, hq⟩, k4⟩
    refine ⟨_, rfl, ?_⟩; (first | refine Then.go hmix ?_ | refine Sat.go hmix ?_ | refine ResK.go ?_ | skip); conv => whnf
    have K4 := K2.trans0 k4
    have hb := hb.keep0 k4
    cases q with
    | false =>
      refine KGO ?_
      exact ⟨rfl, K4⟩
    | true =>
      obtain ⟨hL40, hL20⟩ := hq rfl
      by_cases hm20 : 20 < M.length
      · refine KGO ?_
        exact ⟨rfl, K4⟩
      refine KGO ?_
      refine Loop.intro (ι := Nat × Nat × Bk) (fun i => [(0, .slice va L.length vcap), (1, .int .i64 kept), (2, .slice ma M.length mc), (7, .bool true), (8, .pointer (some ⟨nb, 0, none⟩)), (9, .int .i64 (i.2.1 : Nat)), (10, .int .i64 (i.1 : Nat))])
        (fun i wr => Keeps w wr none_ ∧ i.1 ≤ L.length ∧ i.2.1 ≤ i.1 ∧ (∃ v hs, BkAt wr w.heap.size nb v hs i.2.2) ∧ (∀ l ∈ i.2.2.notes, l.length ≤ 20 ∧ ∀ c ∈ l, c.id < 9223372036854775808) ∧ i.2.2.state = 7 + i.2.1 ∧ i.2.2.kept = kept ∧ (i.2.2.notes.length : Int) = min (i.2.1 : Int) kept) (fun i => L.length - i.1) (0, 0, ⟨7, kept, []⟩) ⟨rfl, rfl, rfl, rfl, rfl, rfl, rfl, trivial⟩
        ⟨K4, by omega, by dsimp only; omega, ⟨_, _, hb⟩, (fun l h => by cases h), rfl, rfl, by dsimp only; simp only [List.length_nil]; omega⟩ ?_
      clear hb
      rintro ⟨i, n, k⟩ gf wr ⟨hK, hi, hni, ⟨v, hs1, hb⟩, hsm, hks, hkk, hkn⟩
      dsimp only at hi hni hb hsm hks hkk hkn ⊢
      (first | refine Then.go hmix ?_ | refine Sat.go hmix ?_ | refine ResK.go ?_ | skip); conv => whnf
      by_cases hlt : i < L.length
      · have g0 := hb.good
        have hrow := at_slc_row hp hlt
        have hL20i := hL20 L[i] (List.getElem_mem hlt)
        have hidi := hid L[i] (List.getElem_mem hlt)
        obtain ⟨gL, oL, rfl, hgL, hatL⟩ := hr (by omega)
        have hcL := at_slc hatL hlt
        have hnL := rowC_n (hp L[i] (List.getElem_mem hlt))
        rw [hnL] at hcL
        obtain ⟨l, hLi⟩ : ∃ l, L[i].2 = l := ⟨_, rfl⟩
        obtain ⟨la, hla⟩ : ∃ la, L[i].1.a = la := ⟨_, rfl⟩
        obtain ⟨lc, hlc⟩ : ∃ lc, L[i].1.c = lc := ⟨_, rfl⟩
        rw [hLi, hla, hlc] at hrow hcL
        rw [hLi] at hL20i hidi
        have hcr := cell_mono hcL hK
        have hnk := noteA_cnt (l := l) hb.good hks hkk hkn (by omega)
        have hsm2 : ∀ x ∈ (noteA k (k.state + 1) l).2.notes, x.length ≤ 20 ∧ ∀ c ∈ x, c.id < 9223372036854775808 := noteA_all hsm ⟨by omega, hidi⟩
        refine KGO ?_
        refine Draw.held (fun u => Keeps w u none_) (fun _ => true) (by decide +kernel) hK.drew ?_
        refine KGO ?_
        refine CallS.of (Try.call13 _ _) (cx_State (hb.keep0 (Keeps.refl wr none_).drew)) ?_
        rintro e w9 ⟨rfl, k9⟩
        have K9 := hK.drew.trans0 k9
        have k9' := (Keeps.refl wr none_).drew.trans0 k9
        have hb9 := hb.keep0 k9'
        refine ⟨_, rfl, ?_⟩; (first | refine Then.go hmix ?_ | refine Sat.go hmix ?_ | refine ResK.go ?_ | skip); conv => whnf
        refine ⟨K9, ?_⟩
        refine KGO ?_
        have hcall := cx_Note (vl := ⟨la, l.length, lc⟩) hb9 K9.size (k.state + 1) (by omega) (by omega) l (hrow.keep K9) (by omega)
        refine CallS.of (Try.call14 _ _) hcall ?_
        rintro e w10 ⟨rfl, ⟨v10, hs10, hb10⟩, k10⟩
        have K10 := note_keeps hb9 hnbw K9 k10
        refine ⟨_, rfl, ?_⟩; (first | refine Then.go hmix ?_ | refine Sat.go hmix ?_ | refine ResK.go ?_ | skip); conv => whnf
        refine ⟨K10, ?_⟩
        (first | refine Then.go hmix ?_ | refine Sat.go hmix ?_ | refine ResK.go ?_ | skip); conv => whnf
        obtain ⟨er, k2, hne⟩ : ∃ er k2, noteA k (k.state + 1) l = (er, k2) := ⟨_, _, rfl⟩
        rw [hne] at hb10 hsm2 hnk ⊢
        dsimp only at hb10 hsm2 hnk ⊢
        obtain ⟨n1, n2, n3⟩ := hnk
        by_cases h0 : er = 0
        · obtain ⟨n4, n5⟩ := n2 h0
          subst h0
          refine KGO ?_
          exact ⟨(i + 1, n + 1, k2), ⟨rfl, rfl, rfl, rfl, rfl, v_int (by simp), v_int (by simp), trivial⟩, ⟨K10, by dsimp only; omega, by dsimp only; omega, ⟨_, _, hb10⟩, hsm2, n4, n1, n5⟩, by dsimp only; omega⟩
        · have n3 := n3 h0
          subst n3
          refine KGO ?_
          exact ⟨(i + 1, n, k2), ⟨rfl, rfl, rfl, rfl, rfl, rfl, v_int (by simp), trivial⟩, ⟨K10, by dsimp only; omega, by dsimp only; omega, ⟨_, _, hb10⟩, hsm2, hks, n1, hkn⟩, by dsimp only; omega⟩
      · have hids : ∀ l ∈ k.notes, ∀ c ∈ l, c.id < 9223372036854775808 := fun l h => (hsm l h).2
        have hsml : ∀ l ∈ k.notes, l.length ≤ 1000 := fun l h => Nat.le_trans (hsm l h).1 (by decide)
        have hgd := hb.good
        have hbl := bytesA_len20 k hgd hsm
        have hbr := bytes_read hgd hids
        refine KGO ?_
        refine CallS.of (Try.call11 _ _) (cx_Bytes hb hids hsml) ?_
        rintro e w5 ⟨rfl, k5⟩
        refine ⟨_, rfl, ?_⟩; (first | refine Then.go hmix ?_ | refine Sat.go hmix ?_ | refine ResK.go ?_ | skip); conv => whnf
        have hb := hb.keep0 k5
        have K5 := hK.trans0 k5
        have hBs : Go.Cs.L (str (bytesA k)) = bytesA k := rfl
        have hBz : (str (bytesA k)).size ≤ 1000000 := by
          have : (str (bytesA k)).size = (bytesA k).length := rfl
          have := hgd.nk; have := hgd.k1
          omega
        rw [← hBs] at hbr
        obtain ⟨bs, hbs⟩ : ∃ bs, str (bytesA k) = bs := ⟨_, rfl⟩
        rw [hbs] at hbr hBz ⊢
        refine KGO ?_
        refine CallS.of (Try.call9 _ _) (cx_Read bs hBz) ?_
        rintro e w6 ⟨hR, k6⟩
        rw [hbr] at hR
        obtain ⟨nc, vc, hc, rfl, hnc, hcb⟩ := hR
        refine ⟨_, rfl, ?_⟩; (first | refine Then.go hmix ?_ | refine Sat.go hmix ?_ | refine ResK.go ?_ | skip); conv => whnf
        have hvlt5 : ∀ q, v.v.ownBlock = some q → q < w5.heap.size := fun q hq => (hb.own.lt q hq).2
        have hblt5 := hb.var.lt
        have hcge5 : ∀ q, vc.v.ownBlock = some q → w5.heap.size ≤ q := fun q hq => (hcb.own.lt q hq).1
        have hb := hb.keep0 k6
        have K6 := K5.trans0 k6
        refine KGO ?_
        refine CallS.of (Try.call22 _ _) (cx_Copy hb K6.size) ?_
        rintro e w7 ⟨vd, rfl, hdb, hdge, k7⟩
        refine ⟨_, rfl, ?_⟩; (first | refine Then.go hmix ?_ | refine Sat.go hmix ?_ | refine ResK.go ?_ | skip); conv => whnf
        have hclt6 : ∀ q, vc.v.ownBlock = some q → q < w6.heap.size := fun q hq => (hcb.own.lt q hq).2
        have hnclt := hcb.var.lt
        have hb := hb.keep0 k7
        have hcb := hcb.keep0 k7
        have K7 := K6.trans0 k7
        obtain ⟨nd, hnd⟩ : ∃ nd, w6.heap.size = nd := ⟨_, rfl⟩
        rw [hnd] at hdb hdge hclt6 hnclt ⊢
        have h56 := k6.size
        have h67 := k7.size
        refine KGO ?_
        refine CallS.of (Try.call13 _ _) (cx_State hb) ?_
        rintro e w8 ⟨rfl, k8⟩
        refine ⟨_, rfl, ?_⟩; (first | refine Then.go hmix ?_ | refine Sat.go hmix ?_ | refine ResK.go ?_ | skip); conv => whnf
        have hb := hb.keep0 k8
        have hcb := hcb.keep0 k8
        have hdb := hdb.keep0 k8
        have K8 := K7.trans0 k8
        have hks0 := hgd.s1
        have hfk : firstA k = 7 + (n : Int) - min (n : Int) kept := by unfold firstA; omega
        refine KGO ?_
        refine CallS.of (Try.call20 _ _) (cx_First hb) ?_
        rintro e w9 ⟨rfl, k9⟩
        rw [hfk]
        refine ⟨_, rfl, ?_⟩; (first | refine Then.go hmix ?_ | refine Sat.go hmix ?_ | refine ResK.go ?_ | skip); conv => whnf
        have hb := hb.keep0 k9
        have hcb := hcb.keep0 k9
        have hdb := hdb.keep0 k9
        have K9 := K8.trans0 k9
        refine KGO ?_
        refine CallS.of (Try.call11 _ _) (cx_Bytes hb hids hsml) ?_
        rintro e w10 ⟨rfl, k10⟩
        rw [hbs]
        refine ⟨_, rfl, ?_⟩; (first | refine Then.go hmix ?_ | refine Sat.go hmix ?_ | refine ResK.go ?_ | skip); conv => whnf
        have hb := hb.keep0 k10
        have hcb := hcb.keep0 k10
        have hdb := hdb.keep0 k10
        have K10 := K9.trans0 k10
        have h7_10 : w7.heap.size ≤ w10.heap.size := ((k8.trans0 k9).trans0 k10).size
        have hM2 : ∀ x ∈ (noteA k (8 + n) M).2.notes, x.length ≤ 20 ∧ ∀ c ∈ x, c.id < 9223372036854775808 := noteA_all hsm ⟨by omega, hmid⟩
        obtain ⟨er, k2, hne⟩ : ∃ er k2, noteA k (8 + n) M = (er, k2) := ⟨_, _, rfl⟩
        rw [hne] at hM2
        dsimp only at hM2
        refine KGO ?_
        have hB5 : w5.heap.size ≤ w10.heap.size := by omega
        have hcall := cx_NoteAt (vl := ⟨ma, M.length, mc⟩) hcb hB5 (8 + n) (by omega) (by omega) M (hm0.keep K10) (by omega)
        rw [hne] at hcall
        refine CallS.of (Try.call14 _ _) hcall ?_
        rintro e w11 ⟨rfl, ⟨vc2, hc2, hcb2, hloc⟩, k11⟩
        refine ⟨_, rfl, ?_⟩; (first | refine Then.go hmix ?_ | refine Sat.go hmix ?_ | refine ResK.go ?_ | skip); conv => whnf
        have hdown : ∀ q, vd.v.ownBlock = some q → q < w10.heap.size := fun q hq => (hdb.own.lt q hq).2
        have hb11 := hb.other hcb (by omega) (fun q hq e => by have := hvlt5 q hq; have := hcge5 q e; omega) k11
        have hdb11 := hdb.other hcb (by omega) (fun q hq e => by have := hdge q hq; have := hclt6 q e; omega) k11
        have K11 : Keeps w w11 none_ := K10.trans k11 fun q hq e => by
          rcases e with e | e
          · have := K5.size; omega
          · have := hcge5 q e; have := K5.size; omega
        refine KGO ?_
        have hcall := cx_Note (vl := ⟨ma, M.length, mc⟩) hdb11 K11.size (8 + n) (by omega) (by omega) M (hm0.keep K11) (by omega)
        rw [hne] at hcall
        refine CallS.of (Try.call14 _ _) hcall ?_
        rintro e w12 ⟨rfl, ⟨vd2, hd2, hdb2⟩, k12⟩
        refine ⟨_, rfl, ?_⟩; (first | refine Then.go hmix ?_ | refine Sat.go hmix ?_ | refine ResK.go ?_ | skip); conv => whnf
        have hb12 := hb11.other hdb11 (by omega) (fun q hq e => by have := hvlt5 q hq; have := hdge q e; omega) k12
        have hcb12 := hcb2.other hdb11 (by omega) (fun q hq e => by
          have := hdge q e
          have := hdown q e
          rcases hloc q hq with h | h
          · have := hclt6 q h; omega
          · omega) k12
        have K12 : Keeps w w12 none_ := K11.trans k12 fun q hq e => by
          rcases e with e | e
          · have := K5.size; omega
          · have := hdge q e; have := K5.size; omega
        have hids2 : ∀ l ∈ k2.notes, ∀ c ∈ l, c.id < 9223372036854775808 := fun l h => (hM2 l h).2
        have hsml2 : ∀ l ∈ k2.notes, l.length ≤ 1000 := fun l h => Nat.le_trans (hM2 l h).1 (by decide)
        clear hcb hdb hcb2 hdb11 hb hb11
        refine KGO ?_
        refine CallS.of (Try.call11 _ _) (cx_Bytes hcb12 hids2 hsml2) ?_
        rintro e w13 ⟨rfl, k13⟩
        refine ⟨_, rfl, ?_⟩; (first | refine Then.go hmix ?_ | refine Sat.go hmix ?_ | refine ResK.go ?_ | skip); conv => whnf
        refine KGO ?_
        refine CallS.of (Try.call11 _ _) (cx_Bytes (hdb2.keep0 k13) hids2 hsml2) ?_
        rintro e w14 ⟨rfl, k14⟩
        refine ⟨_, rfl, ?_⟩; (first | refine Then.go hmix ?_ | refine Sat.go hmix ?_ | refine ResK.go ?_ | skip); conv => whnf
        have hb14 := hb12.keep0 (k13.trans0 k14)
        have K14 := (K12.trans0 k13).trans0 k14
        refine KGO ?_
        refine CallS.of (Try.call11 _ _) (cx_Bytes hb14 hids hsml) ?_
        rintro e w15 ⟨rfl, k15⟩
        rw [hbs]
        refine ⟨_, rfl, ?_⟩; (first | refine Then.go hmix ?_ | refine Sat.go hmix ?_ | refine ResK.go ?_ | skip); conv => whnf
        have hb15 := hb14.keep0 k15
        have K15 := K14.trans0 k15
        refine KGO ?_
        refine Loop.intro (ι := Nat) (fun i => [(7, .bool true), (8, .pointer (some ⟨nb, 0, none⟩)), (15, .int .i64 (i : Nat))])
          (fun i wr => Keeps w wr none_ ∧ BkAt wr w.heap.size nb v hs1 k ∧ 1 ≤ i ∧ i ≤ 4) (fun i => 4 - i) 1 ⟨rfl, rfl, rfl, trivial⟩ ⟨K15, hb15, by omega, by omega⟩ ?_
        clear hb12 hb14 hb15 hcb12 hdb2
        rintro i gf5 wr ⟨hK, hb, hi1, hi4⟩
        (first | refine Then.go hmix ?_ | refine Sat.go hmix ?_ | refine ResK.go ?_ | skip); conv => whnf
        by_cases hi3 : i ≤ 3
        · obtain ⟨d1, e1⟩ := since_first hgd (of := i) (by omega) (by omega)
          obtain ⟨d2, e2⟩ := since_old hgd (of := i) (by omega) (by omega)
          have e3 := since_now hgd (of := i) (by omega) (by omega)
          have hf1 : -9223372036854775808 ≤ firstA k - 1 ∧ firstA k ≤ 9223372036854775807 := by have := hgd.ns; unfold firstA; omega
          have hks2 := hgd.s0
          refine KGO ?_
          refine CallS.of (Try.call20 _ _) (cx_First hb) ?_
          rintro e x1 ⟨rfl, j1⟩
          refine ⟨_, rfl, ?_⟩; (first | refine Then.go hmix ?_ | refine Sat.go hmix ?_ | refine ResK.go ?_ | skip); conv => whnf
          have hb := hb.keep0 j1
          refine KGO ?_
          refine CallS.of (Try.call16 _ _) (cx_Since hb hsml (firstA k) i (by omega)) ?_
          rintro e x2 ⟨⟨m1, c1, g1, rfl, om1, oc1, og1⟩, j2⟩
          rw [e1]
          refine ⟨_, rfl, ?_⟩; (first | refine Then.go hmix ?_ | refine Sat.go hmix ?_ | refine ResK.go ?_ | skip); conv => whnf
          have hb := hb.keep0 j2
          refine Store.fresh (vs := dlC m1 c1 g1 d1.state) (by rfl) rfl (flat_of (by rfl)) ?_
          have a_b3 := at_fresh x2 40 (dlC m1 c1 g1 d1.state)
          have k_x3 : Keeps x2 (x2.alloc (.cells (List.toArray (dlC m1 c1 g1 d1.state)) 40)) none_ := (Keeps.refl _ _).alloc _
          have z_x3 : (x2.alloc (.cells (List.toArray (dlC m1 c1 g1 d1.state)) 40)).heap.size = x2.heap.size + 1 := by simp
          generalize x2.alloc (.cells (List.toArray (dlC m1 c1 g1 d1.state)) 40) = x3 at *
          generalize hs_b3 : x2.heap.size = b3 at *
          have hb := hb.keep0 k_x3
          have J3 := (j1.trans0 j2).trans0 k_x3
          refine KGO ?_
          refine CallS.of (Try.call20 _ _) (cx_First hb) ?_
          rintro e x4 ⟨rfl, j4⟩
          refine ⟨_, rfl, ?_⟩; (first | refine Then.go hmix ?_ | refine Sat.go hmix ?_ | refine ResK.go ?_ | skip); conv => whnf
          have hb := hb.keep0 j4
          refine KGO ?_
          refine CallS.of (Try.call16 _ _) (cx_Since hb hsml (firstA k - 1) i (by omega)) ?_
          rintro e x5 ⟨⟨m2, c2, g2, rfl, om2, oc2, og2⟩, j5⟩
          rw [e2]
          refine ⟨_, rfl, ?_⟩; (first | refine Then.go hmix ?_ | refine Sat.go hmix ?_ | refine ResK.go ?_ | skip); conv => whnf
          have hb := hb.keep0 j5
          refine Store.fresh (vs := dlC m2 c2 g2 d2.state) (by rfl) rfl (flat_of (by rfl)) ?_
          have a_b6 := at_fresh x5 40 (dlC m2 c2 g2 d2.state)
          have k_x6 : Keeps x5 (x5.alloc (.cells (List.toArray (dlC m2 c2 g2 d2.state)) 40)) none_ := (Keeps.refl _ _).alloc _
          have z_x6 : (x5.alloc (.cells (List.toArray (dlC m2 c2 g2 d2.state)) 40)).heap.size = x5.heap.size + 1 := by simp
          generalize x5.alloc (.cells (List.toArray (dlC m2 c2 g2 d2.state)) 40) = x6 at *
          generalize hs_b6 : x5.heap.size = b6 at *
          have hb := hb.keep0 k_x6
          have J6 := ((J3.trans0 j4).trans0 j5).trans0 k_x6
          refine KGO ?_
          refine CallS.of (Try.call13 _ _) (cx_State hb) ?_
          rintro e x7 ⟨rfl, j7⟩
          refine ⟨_, rfl, ?_⟩; (first | refine Then.go hmix ?_ | refine Sat.go hmix ?_ | refine ResK.go ?_ | skip); conv => whnf
          have hb := hb.keep0 j7
          refine KGO ?_
          refine CallS.of (Try.call16 _ _) (cx_Since hb hsml k.state i (by omega)) ?_
          rintro e x8 ⟨⟨m3, c3, g3, rfl, om3, oc3, og3⟩, j8⟩
          rw [e3] at om3 oc3 og3 ⊢
          dsimp only at om3 oc3 og3 ⊢
          refine ⟨_, rfl, ?_⟩; (first | refine Then.go hmix ?_ | refine Sat.go hmix ?_ | refine ResK.go ?_ | skip); conv => whnf
          have hb := hb.keep0 j8
          have z1 := own_zero om3
          have z2 := own_zero oc3
          have z3 := own_zero og3
          obtain ⟨m3a, m3n, m3c⟩ := m3
          obtain ⟨c3a, c3n, c3c⟩ := c3
          obtain ⟨g3a, g3n, g3c⟩ := g3
          dsimp only at z1 z2 z3
          subst z1; subst z2; subst z3
          clear om3 oc3 og3 a_b3 a_b6
          refine Store.fresh (vs := dlC ⟨m3a, 0, m3c⟩ ⟨c3a, 0, c3c⟩ ⟨g3a, 0, g3c⟩ k.state) (by rfl) rfl (flat_of (by rfl)) ?_
          have a_b9 := at_fresh x8 40 (dlC ⟨m3a, 0, m3c⟩ ⟨c3a, 0, c3c⟩ ⟨g3a, 0, g3c⟩ k.state)
          have k_x9 : Keeps x8 (x8.alloc (.cells (List.toArray (dlC ⟨m3a, 0, m3c⟩ ⟨c3a, 0, c3c⟩ ⟨g3a, 0, g3c⟩ k.state)) 40)) none_ := (Keeps.refl _ _).alloc _
          have z_x9 : (x8.alloc (.cells (List.toArray (dlC ⟨m3a, 0, m3c⟩ ⟨c3a, 0, c3c⟩ ⟨g3a, 0, g3c⟩ k.state)) 40)).heap.size = x8.heap.size + 1 := by simp
          generalize x8.alloc (.cells (List.toArray (dlC ⟨m3a, 0, m3c⟩ ⟨c3a, 0, c3c⟩ ⟨g3a, 0, g3c⟩ k.state)) 40) = x9 at *
          generalize hs_b9 : x8.heap.size = b9 at *
          have hb := hb.keep0 k_x9
          have J9 := ((J6.trans0 j7).trans0 j8).trans0 k_x9
          have q9 := Keeps.refl x9 none_
          have a9 : At x9 b9 0 [.slice m3a 0 m3c, .slice c3a 0 c3c, .slice g3a 0 g3c, .int .i64 k.state] := a_b9
          clear a_b9
          refine KGO ?_
          exact ⟨i + 1, ⟨rfl, rfl, v_int (by simp), trivial⟩, ⟨by first | exact hK.trans0 J9 | exact (hK.trans0 J9).drew, by first | exact hb | exact hb.keep0 q9.drew, by omega, by omega⟩, by dsimp only; omega⟩
        · refine KGO ?_
          exact ⟨rfl, hK⟩
end
end Go.Proofs.Ytcplagfblmemhaa
