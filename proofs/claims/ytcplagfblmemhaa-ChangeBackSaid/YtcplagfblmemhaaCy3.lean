/- Helper text of this claim: Cy3: lemmas and contracts that the proved statement rests on; no conditions of its own. -/
import Derived.Test.YtcplagfblmemhaaGCy2
-- alias Try
namespace Go.Proofs.Ytcplagfblmemhaa
set_option linter.unusedVariables false
open Go.Shelf Go.RowKit Go.Pw Go.Vc Go.Cs Go.Lib Go.Cd Go.Cx
set_option linter.unusedVariables false
set_option maxRecDepth 100000
/-- What has been seen of the notes behind the d-th: i notes and j changes of the next. -/
def preC (N : List (List Chg)) (d i j : Nat) : List Chg := ((N.take i).drop d).flatten ++ (if d ≤ i then (N.getD i []).take j else [])
theorem preC_0 (N : List (List Chg)) (d : Nat) : preC N d 0 0 = [] := by unfold preC; simp
theorem preC_step {N : List (List Chg)} {d i j : Nat} {nt : List Chg} (hi : i < N.length) (hn : N[i] = nt) (hj : j < nt.length) : preC N d i (j + 1) = if d ≤ i then preC N d i j ++ [nt[j]] else preC N d i j := by
  unfold preC
  have : N.getD i [] = nt := by rw [List.getD_eq_getElem?_getD, List.getElem?_eq_getElem hi, Option.getD_some, hn]
  rw [this]
  by_cases h : d ≤ i
  · rw [if_pos h, if_pos h, if_pos h, List.take_succ_eq_append_getElem hj, List.append_assoc]
  · rw [if_neg h, if_neg h, if_neg h]
theorem preC_next {N : List (List Chg)} {d i : Nat} {nt : List Chg} (hi : i < N.length) (hn : N[i] = nt) : preC N d i nt.length = preC N d (i + 1) 0 := by
  unfold preC
  have : N.getD i [] = nt := by rw [List.getD_eq_getElem?_getD, List.getElem?_eq_getElem hi, Option.getD_some, hn]
  rw [this, List.take_succ_eq_append_getElem hi, hn]
  by_cases h : d ≤ i
  · rw [if_pos h, if_pos (by omega), List.drop_append_of_le_length (by rw [List.length_take]; omega)]
    simp
  · rw [if_neg h, List.drop_of_length_le (show (List.take i N).length ≤ d by rw [List.length_take]; omega), List.drop_of_length_le (show (List.take i N ++ [nt]).length ≤ d by rw [List.length_append, List.length_take, List.length_singleton]; omega)]
    split <;> simp
theorem preC_end (N : List (List Chg)) (d : Nat) : preC N d N.length 0 = (N.drop d).flatten := by
  unfold preC; rw [List.take_length]; split <;> simp
theorem preC_mem {N : List (List Chg)} {d i j : Nat} {c : Chg} (h : c ∈ preC N d i j) : ∃ l ∈ N, c ∈ l := by
  unfold preC at h
  rcases List.mem_append.1 h with h | h
  · obtain ⟨l, h1, h2⟩ := List.mem_flatten.1 h
    exact ⟨l, List.mem_of_mem_take (List.mem_of_mem_drop h1), h2⟩
  · split at h
    · have h := List.mem_of_mem_take h
      rw [List.getD_eq_getElem?_getD] at h
      cases hg : N[i]? with
      | none => rw [hg] at h; cases h
      | some l => rw [hg] at h; exact ⟨l, List.mem_of_getElem? hg, h⟩
    · cases h
theorem preC_len {N : List (List Chg)} (d i j : Nat) (h : ∀ l ∈ N, l.length ≤ 1000) : (preC N d i j).length ≤ N.length * 1000 + 1000 := by
  unfold preC
  rw [List.length_append]
  have h1 : ((N.take i).drop d).flatten.length ≤ N.length * 1000 := by
    refine Nat.le_trans (flat_le 1000 _ fun l hl => h l (List.mem_of_mem_take (List.mem_of_mem_drop hl))) (Nat.mul_le_mul_right _ ?_)
    rw [List.length_drop, List.length_take]; omega
  have h2 : (if d ≤ i then (N.getD i []).take j else []).length ≤ 1000 := by
    split
    · rw [List.length_take]
      rw [List.getD_eq_getElem?_getD]
      cases hg : N[i]? with
      | none => simp
      | some l => have := h l (List.mem_of_getElem? hg); simp only [Option.getD_some]; omega
    · simp
  omega
theorem build_dl0 (w : World) : (Instr.build 40 [].toArray).run Try.prog w = .ok (.agg #[.slice none 0 0, .slice none 0 0, .slice none 0 0, .int .i64 0]) w := by
  simp [Instr.build, Instr.fill, go_sem, Try.runUnderlying40]
theorem build_dl1 (z : Int) (w : World) : (Instr.build 40 [(3, .int .i64 z)].toArray).run Try.prog w = .ok (.agg #[.slice none 0 0, .slice none 0 0, .slice none 0 0, .int .i64 z]) w := by
  simp [Instr.build, Instr.fill, go_sem, Try.runUnderlying40]
theorem bs1Chg2 (x : Chg) (w : World) : (Instr.buildSlice 37 1 [(0, .agg (chC x).toArray)].toArray).run Try.prog w = .ok (.slice (some ⟨w.heap.size, 0, none⟩) 1 1) (w.alloc (.cells (List.toArray (chC x)) 48)) := by
  simp [Instr.buildSlice, go_sem, Try.runUnderlying37, chC]
theorem putS_ne (l : List Int) (n : Int) : putS l n ≠ [] := by
  cases l with
  | nil => simp [putS]
  | cons x l => unfold putS; split; simp; split <;> simp
/-- A delta in the making: its variable, its three rows. -/
structure D3 (B db : Nat) (st : Int) (m c g : Sl) (lm lc lg : List Int) (w : World) : Prop where
  va : VarK w db 40 [m.v, c.v, g.v, .int .i64 st]
  om : OwnI w B m.v lm
  oc : OwnI w B c.v lc
  og : OwnI w B g.v lg
  mc : Apart m.v c.v
  mg : Apart m.v g.v
  cg : Apart c.v g.v
  hd : db < B
theorem D3.keep0 {B db : Nat} {st : Int} {m c g : Sl} {lm lc lg : List Int} {w w' : World} (h : D3 B db st m c g lm lc lg w) (k : Keeps w w' none_) : D3 B db st m c g lm lc lg w' := ⟨h.va.keep0 k, own_keep0 h.om k, own_keep0 h.oc k, own_keep0 h.og k, h.mc, h.mg, h.cg, h.hd⟩
/-- A number appended to one of the rows and stored. -/
theorem D3.made {B db : Nat} {st z : Int} {m c g m' : Sl} {lm lc lg : List Int} {w w1 w2 : World} (h : D3 B db st m c g lm lc lg w) (o : OwnI w1 B m'.v (lm ++ [z])) (k : Keeps w w1 (own_ m.v)) (hb : m'.v.ownBlock = m.v.ownBlock ∨ m'.v.ownBlock = some w.heap.size) (v2 : VarK w2 db 40 [m'.v, c.v, g.v, .int .i64 st]) (k2 : Keeps w1 w2 (one_ db)) : D3 B db st m' c g (lm ++ [z]) lc lg w2 :=
  have ne : ∀ {u : Value} {L : List Int} {x : World}, OwnI x B u L → ∀ q, u.ownBlock = some q → ¬ one_ db q := fun h' q hq e => by have e : q = db := e; have := (h'.lt q hq).1; have := h.hd; omega
  ⟨v2, own_keep o k2 (ne o), own_keep (own_keepA h.oc k (apart_symm h.mc)) k2 (ne h.oc), own_keep (own_keepA h.og k (apart_symm h.mg)) k2 (ne h.og), apart_app h.mc hb (fun q hq => (h.oc.lt q hq).2), apart_app h.mg hb (fun q hq => (h.og.lt q hq).2), h.cg, h.hd⟩
theorem D3.changed {B db : Nat} {st z : Int} {m c g c' : Sl} {lm lc lg : List Int} {w w1 w2 : World} (h : D3 B db st m c g lm lc lg w) (o : OwnI w1 B c'.v (lc ++ [z])) (k : Keeps w w1 (own_ c.v)) (hb : c'.v.ownBlock = c.v.ownBlock ∨ c'.v.ownBlock = some w.heap.size) (v2 : VarK w2 db 40 [m.v, c'.v, g.v, .int .i64 st]) (k2 : Keeps w1 w2 (one_ db)) : D3 B db st m c' g lm (lc ++ [z]) lg w2 :=
  have ne : ∀ {u : Value} {L : List Int} {x : World}, OwnI x B u L → ∀ q, u.ownBlock = some q → ¬ one_ db q := fun h' q hq e => by have e : q = db := e; have := (h'.lt q hq).1; have := h.hd; omega
  ⟨v2, own_keep (own_keepA h.om k h.mc) k2 (ne h.om), own_keep o k2 (ne o), own_keep (own_keepA h.og k (apart_symm h.cg)) k2 (ne h.og), apart_symm (apart_app (apart_symm h.mc) hb (fun q hq => (h.om.lt q hq).2)), h.mg, apart_app h.cg hb (fun q hq => (h.og.lt q hq).2), h.hd⟩
theorem D3.gone {B db : Nat} {st z : Int} {m c g g' : Sl} {lm lc lg : List Int} {w w1 w2 : World} (h : D3 B db st m c g lm lc lg w) (o : OwnI w1 B g'.v (lg ++ [z])) (k : Keeps w w1 (own_ g.v)) (hb : g'.v.ownBlock = g.v.ownBlock ∨ g'.v.ownBlock = some w.heap.size) (v2 : VarK w2 db 40 [m.v, c.v, g'.v, .int .i64 st]) (k2 : Keeps w1 w2 (one_ db)) : D3 B db st m c g' lm lc (lg ++ [z]) w2 :=
  have ne : ∀ {u : Value} {L : List Int} {x : World}, OwnI x B u L → ∀ q, u.ownBlock = some q → ¬ one_ db q := fun h' q hq e => by have e : q = db := e; have := (h'.lt q hq).1; have := h.hd; omega
  ⟨v2, own_keep (own_keepA h.om k h.mg) k2 (ne h.om), own_keep (own_keepA h.oc k h.cg) k2 (ne h.oc), own_keep o k2 (ne o), h.mc, apart_symm (apart_app (apart_symm h.mg) hb (fun q hq => (h.om.lt q hq).2)), apart_symm (apart_app (apart_symm h.cg) hb (fun q hq => (h.oc.lt q hq).2)), h.hd⟩
theorem cell_ltS {w : World} {g i : Nat} {v : Value} (h : w.cell? ⟨g, i, none⟩ = some v) : g < w.heap.size := by
  rcases Nat.lt_or_ge g w.heap.size with h' | h'
  · exact h'
  · unfold World.cell? at h
    dsimp only at h
    rw [Array.getElem?_eq_none h'] at h
    cases h
theorem take_filter_snoc {l : List Int} {i : Nat} (hi : i < l.length) (p : Int → Bool) : (l.take (i + 1)).filter p = if p l[i] = true then (l.take i).filter p ++ [l[i]] else (l.take i).filter p := by
  rw [List.take_succ_eq_append_getElem hi, List.filter_append, List.filter_cons]
  split <;> simp
section
variable {w : World}
set_option maxHeartbeats 8000000 in
theorem ry_Since {B b : Nat} {v : Sl} {hs : List (Int × Sl)} {k : Bk} (h : RbAt w B b v hs k) (hsm : ∀ l ∈ k.notes, l.length ≤ 1000) (st of : Int) (hst : -9223372036854775808 ≤ st ∧ st ≤ 9223372036854775807) :
    Calls Try.prog 17 #[.pointer (some ⟨b, 0, none⟩), .int .i64 st, .int .i64 of] w fun e w' => SinceOk w w' (sinceA k st of) e ∧ Keeps w w' none_ := by
  have hn := own_nS h.own
  have g := h.good
  have g1 := g.ns; have g2 := g.s0; have g3 := g.s1; have g4 := g.nk; have g5 := g.k1; have g6 := g.k0
  obtain ⟨a, n, c⟩ := v
  obtain rfl : n = hs.length := hn
  have hl := h.hl
  have ha : At w b 0 [.int .i64 k.kept, .int .i64 k.state, .slice a hs.length c] := h.var.at
  have hown : w.ownsRow B 67 2 (.slice a hs.length c) hs.length (hs.flatMap noC) := h.own
  have hfd : firstA k = k.state - hs.length := by unfold firstA; omega
  refine calls_of_vc (args := [.pointer (some ⟨b, 0, none⟩), .int .i64 st, .int .i64 of]) Try.func17 rfl (Nat.le_of_ble_eq_true rfl) ?_; refine Sat.go hmix ?_; conv => whnf
  have vd := VarK.new w 40 [.slice none 0 0, .slice none 0 0, .slice none 0 0, .int .i64 0]
  have kd : Keeps w (w.alloc (.cells (List.toArray [.slice none 0 0, .slice none 0 0, .slice none 0 0, .int .i64 0]) 40)) none_ := (Keeps.refl _ _).alloc _
  generalize w.alloc (.cells (List.toArray [.slice none 0 0, .slice none 0 0, .slice none 0 0, .int .i64 0]) 40) = wd at *
  obtain ⟨db, hdb⟩ : ∃ db, w.heap.size = db := ⟨_, rfl⟩
  rw [hdb] at vd ⊢
  have ad := vd.at
  have qd := Keeps.refl wd none_
  unfold sinceA
  by_cases h1 : of < 1 ∨ 3 < of
  · rw [if_pos h1]
    rcases h1 with h1 | h1
    · refine KGO ?_
      refine RunV.of (build_dl0 _) ?_
      refine KGO ?_
      refine Store.varK [.slice none 0 0, .slice none 0 0, .slice none 0 0, .int .i64 0] vd (by rfl) rfl (flat_of (by rfl)) fun we ve ke => ?_
      have ae := ve.at
      have qe := Keeps.refl we none_
      refine KGO ?_
      (first | refine Then.go hmix ?_ | refine Sat.go hmix ?_ | refine ResK.go ?_ | skip); conv => whnf
      exact ⟨⟨⟨none, 0, 0⟩, ⟨none, 0, 0⟩, ⟨none, 0, 0⟩, rfl, World.ownsRow_nil _ _ _ _, World.ownsRow_nil _ _ _ _, World.ownsRow_nil _ _ _ _⟩, kd.trans ke (fun i hi e => by have e : i = db := e; omega)⟩
    · refine KGO ?_
      refine RunV.of (build_dl0 _) ?_
      refine KGO ?_
      refine Store.varK [.slice none 0 0, .slice none 0 0, .slice none 0 0, .int .i64 0] vd (by rfl) rfl (flat_of (by rfl)) fun we ve ke => ?_
      have ae := ve.at
      have qe := Keeps.refl we none_
      refine KGO ?_
      (first | refine Then.go hmix ?_ | refine Sat.go hmix ?_ | refine ResK.go ?_ | skip); conv => whnf
      exact ⟨⟨⟨none, 0, 0⟩, ⟨none, 0, 0⟩, ⟨none, 0, 0⟩, rfl, World.ownsRow_nil _ _ _ _, World.ownsRow_nil _ _ _ _, World.ownsRow_nil _ _ _ _⟩, kd.trans ke (fun i hi e => by have e : i = db := e; omega)⟩
  rw [if_neg h1]
  by_cases h2 : k.state < st
  · rw [if_pos h2]
    have ab := at_mono ha kd
    refine KGO ?_
    refine RunV.of (build_dl0 _) ?_
    refine KGO ?_
    refine Store.varK [.slice none 0 0, .slice none 0 0, .slice none 0 0, .int .i64 0] vd (by rfl) rfl (flat_of (by rfl)) fun we ve ke => ?_
    have ae := ve.at
    have qe := Keeps.refl we none_
    refine KGO ?_
    (first | refine Then.go hmix ?_ | refine Sat.go hmix ?_ | refine ResK.go ?_ | skip); conv => whnf
    exact ⟨⟨⟨none, 0, 0⟩, ⟨none, 0, 0⟩, ⟨none, 0, 0⟩, rfl, World.ownsRow_nil _ _ _ _, World.ownsRow_nil _ _ _ _, World.ownsRow_nil _ _ _ _⟩, kd.trans ke (fun i hi e => by have e : i = db := e; omega)⟩
  rw [if_neg h2]
  have hbd := h.keep0 kd
  have ab := at_mono ha kd
  refine KGO ?_
  refine CallS.of (Try.call21 _ _) (ry_First hbd) ?_
  rintro e w1 ⟨rfl, k1⟩
  refine ⟨_, rfl, ?_⟩; (first | refine Then.go hmix ?_ | refine Sat.go hmix ?_ | refine ResK.go ?_ | skip); conv => whnf
  have vd := vd.keep0 k1
  have kd := kd.trans0 k1
  have ad := vd.at
  have qd := Keeps.refl w1 none_
  by_cases h3 : st < firstA k
  · rw [if_pos h3]
    refine KGO ?_
    refine RunV.of (build_dl0 _) ?_
    refine KGO ?_
    refine Store.varK [.slice none 0 0, .slice none 0 0, .slice none 0 0, .int .i64 0] vd (by rfl) rfl (flat_of (by rfl)) fun we ve ke => ?_
    have ae := ve.at
    have qe := Keeps.refl we none_
    refine KGO ?_
    (first | refine Then.go hmix ?_ | refine Sat.go hmix ?_ | refine ResK.go ?_ | skip); conv => whnf
    exact ⟨⟨⟨none, 0, 0⟩, ⟨none, 0, 0⟩, ⟨none, 0, 0⟩, rfl, World.ownsRow_nil _ _ _ _, World.ownsRow_nil _ _ _ _, World.ownsRow_nil _ _ _ _⟩, kd.trans ke (fun i hi e => by have e : i = db := e; omega)⟩
  rw [if_neg h3]
  obtain ⟨d, hd⟩ : ∃ d, (st - firstA k).toNat = d := ⟨_, rfl⟩
  have hdi : st = firstA k + (d : Int) := by omega
  have hdl : d ≤ hs.length := by omega
  rw [hd]
  obtain ⟨N, hN⟩ : ∃ N, k.notes = N := ⟨_, rfl⟩
  have hNl : N.length = hs.length := by rw [← hN, hl]
  have hsm : ∀ l ∈ N, l.length ≤ 1000 := by rw [← hN]; exact hsm
  have hfin : ∀ l ∈ N, ∀ c ∈ l, fineA c = true := by rw [← hN]; exact g.fine
  rw [hN]
  refine KGO ?_
  clear ab ad
  refine Loop.intro (ι := Nat × (Option Addr × Nat) × (Option Addr × Nat)) (fun i => [(0, .pointer (some ⟨b, 0, none⟩)), (1, .int .i64 st), (2, .int .i64 of), (6, .pointer (some ⟨db, 0, none⟩)), (8, .slice i.2.1.1 ((preC N d i.1 0).filter fun c => decide (c.of = of)).length i.2.1.2), (9, .slice i.2.2.1 (idsA (preC N d i.1 0) of).length i.2.2.2), (10, .int .i64 (i.1 : Nat))])
    (fun i wr => Keeps w1 wr none_ ∧ i.1 ≤ hs.length ∧ OwnChg wr w1.heap.size (.slice i.2.1.1 ((preC N d i.1 0).filter fun c => decide (c.of = of)).length i.2.1.2) ((preC N d i.1 0).filter fun c => decide (c.of = of)) ∧
      OwnI wr w1.heap.size (.slice i.2.2.1 (idsA (preC N d i.1 0) of).length i.2.2.2) (idsA (preC N d i.1 0) of) ∧ (idsA (preC N d i.1 0) of = [] → i.2.2.1 = none ∧ i.2.2.2 = 0)) (fun i => hs.length - i.1) (0, (none, 0), (none, 0)) ⟨rfl, rfl, rfl, rfl, by rw [preC_0]; rfl, by rw [preC_0]; rfl, rfl, trivial⟩
    ⟨Keeps.refl _ _, by omega, by rw [preC_0]; exact World.ownsRow_nil _ _ _ _, by rw [preC_0]; exact World.ownsRow_nil _ _ _ _, fun _ => ⟨rfl, rfl⟩⟩ ?_
  rintro ⟨i, ⟨la, lc⟩, ⟨ia, ic⟩⟩ gf wr ⟨hK, hi, hol, hoi, hnil⟩
  dsimp only at hi hol hoi hnil ⊢
  (first | refine Then.go hmix ?_ | refine Sat.go hmix ?_ | refine ResK.go ?_ | skip); conv => whnf
  have K0 := kd.trans0 hK
  by_cases hlt : i < hs.length
  · obtain ⟨gb, e1, _, hgb, hat⟩ := own_at hown (by omega)
    subst e1
    have hati := at_row hat lenNo hlt
    have hrow := (h.row i hlt).2
    have hst1 := (h.row i hlt).1
    obtain ⟨nt, hnte⟩ : ∃ nt, N[i]'(by omega) = nt := ⟨_, rfl⟩
    have hnt2 : k.notes[i]'(by omega) = nt := by subst hN; exact hnte
    rw [hnt2] at hrow
    have hxn := own_nS hrow
    obtain ⟨x, hx⟩ : ∃ x, hs[i] = x := ⟨_, rfl⟩
    rw [hx] at hrow hxn hati hst1
    obtain ⟨z, xa, xn, xc⟩ := x
    obtain rfl : xn = nt.length := hxn
    have hrow : w.ownsRow B 48 3 (.slice xa nt.length xc) nt.length (nt.flatMap chC) := hrow
    have hc0 : w.cell? ⟨gb, 0 + i * 2, none⟩ = some (.int .i64 z) := by simpa using hati 0 _ rfl
    have hc1 : w.cell? ⟨gb, 0 + i * 2 + 1, none⟩ = some (.slice xa nt.length xc) := hati 1 _ rfl
    have hst1 : z = firstA k + i + 1 := hst1
    have hntl : nt.length ≤ 1000 := hsm nt (by rw [← hnte]; exact List.getElem_mem _)
    have hntm : nt ∈ N := by rw [← hnte]; exact List.getElem_mem _
    refine KGO ?_
    refine Loop.intro (ι := Nat × (Option Addr × Nat) × (Option Addr × Nat)) (fun j => [(0, .pointer (some ⟨b, 0, none⟩)), (1, .int .i64 st), (2, .int .i64 of), (6, .pointer (some ⟨db, 0, none⟩)), (8, .slice j.2.1.1 ((preC N d i j.1).filter fun c => decide (c.of = of)).length j.2.1.2), (9, .slice j.2.2.1 (idsA (preC N d i j.1) of).length j.2.2.2), (10, .int .i64 (i : Nat)), (11, .int .i64 (j.1 : Nat))])
      (fun j wr => Keeps w1 wr none_ ∧ j.1 ≤ nt.length ∧ OwnChg wr w1.heap.size (.slice j.2.1.1 ((preC N d i j.1).filter fun c => decide (c.of = of)).length j.2.1.2) ((preC N d i j.1).filter fun c => decide (c.of = of)) ∧
        OwnI wr w1.heap.size (.slice j.2.2.1 (idsA (preC N d i j.1) of).length j.2.2.2) (idsA (preC N d i j.1) of) ∧ (idsA (preC N d i j.1) of = [] → j.2.2.1 = none ∧ j.2.2.2 = 0)) (fun j => nt.length - j.1) (0, (la, lc), (ia, ic)) ⟨rfl, rfl, rfl, rfl, rfl, rfl, rfl, rfl, trivial⟩
      ⟨hK, by omega, hol, hoi, hnil⟩ ?_
    rintro ⟨j, ⟨la2, lc2⟩, ⟨ia2, ic2⟩⟩ gg wq ⟨hKq, hj, holq, hoiq, hnilq⟩
    dsimp only at hj holq hoiq hnilq ⊢
    (first | refine Then.go hmix ?_ | refine Sat.go hmix ?_ | refine ResK.go ?_ | skip); conv => whnf
    have K0q := kd.trans0 hKq
    by_cases hlj : j < nt.length
    · obtain ⟨gx, e1, _, hgx, hatx⟩ := own_at hrow (by omega)
      subst e1
      have hstep := preC_step (d := d) (show i < N.length by omega) hnte hlj
      have hplen := preC_len (N := N) d i (j + 1) hsm
      have hplen0 := preC_len (N := N) d i j hsm
      refine KGO ?_
      refine Store.fresh (vs := chC nt[j]) (by rfl) rfl (flat_of (by rfl)) ?_
      have a_bc := at_fresh wq 48 (chC nt[j])
      have k_wa : Keeps wq (wq.alloc (.cells (List.toArray (chC nt[j])) 48)) none_ := (Keeps.refl _ _).alloc _
      have z_wa : (wq.alloc (.cells (List.toArray (chC nt[j])) 48)).heap.size = wq.heap.size + 1 := by simp
      generalize wq.alloc (.cells (List.toArray (chC nt[j])) 48) = wa at *
      generalize hs_bc : wq.heap.size = bc at *
      have Ka := hKq.trans0 k_wa
      have K0a := kd.trans0 Ka
      refine KGO ?_
      by_cases hdi2 : d ≤ i
      · rw [if_pos hdi2] at hstep
        by_cases hof : nt[j].of = of
        · have hfl : (preC N d i (j + 1)).filter (fun c => decide (c.of = of)) = (preC N d i j).filter (fun c => decide (c.of = of)) ++ [nt[j]] := by rw [hstep, List.filter_append, List.filter_cons, if_pos (by simpa using hof)]; rfl
          have hil : idsA (preC N d i (j + 1)) of = putS (idsA (preC N d i j) of) nt[j].id := by rw [hstep, ids_snoc, if_pos hof]
          have hll := List.length_filter_le (fun c => decide (c.of = of)) (preC N d i j)
          have hil2 := ids_len of (preC N d i j)
          have hne := putS_ne (idsA (preC N d i j) of) nt[j].id
          rw [← hil] at hne
          refine KGO ?_
          refine RunV.of (bs1Chg2 nt[j] _) ?_
          have kb : Keeps wa (wa.alloc (.cells (List.toArray (chC nt[j])) 48)) none_ := (Keeps.refl _ _).alloc _
          have hbf := at_fresh wa 48 (chC nt[j])
          have a_b2 := at_mono a_bc kb
          generalize wa.alloc (.cells (List.toArray (chC nt[j])) 48) = wb at *
          generalize wa.heap.size = gb5 at *
          have Kb := Ka.trans0 kb
          have ol2 := own_keep0 holq (k_wa.trans0 kb)
          have oi2 := own_keep0 hoiq (k_wa.trans0 kb)
          refine KGO ?_
          refine tyChg.app1 nt[j] ol2 Kb.size hbf (by omega) (by omega) fun v7 w7 o7 k7 => ?_
          have a_b7 := at_keepc a_b2 k7 (fun e => by have := (holq.lt bc e).2; omega)
          have K7 := own_leC ol2 k7 Kb (Nat.le_refl _)
          have oi7 := own_keep oi2 k7 (fun q hq e => own_own_ne ol2 oi2 (by decide) e hq)
          rw [← hfl] at o7
          obtain ⟨a7, c7, rfl⟩ := own_shape o7
          have q7 := Keeps.refl w7 none_
          clear a_bc a_b2 hbf
          refine KGO ?_
          refine CallS.of (Try.call44 _ _) (ry_put (idsA (preC N d i j) of) nt[j].id oi7 K7.size (by omega) (fun e => by obtain ⟨e1, e2⟩ := hnilq e; rw [e1, e2, e]; rfl)) ?_
          rintro e w8 ⟨v8, rfl, o8, k8⟩
          rw [← hil] at o8
          obtain ⟨a8, c8, rfl⟩ := own_shape o8
          refine ⟨_, rfl, ?_⟩; (first | refine Then.go hmix ?_ | refine Sat.go hmix ?_ | refine ResK.go ?_ | skip); conv => whnf
          refine KGO ?_
          exact ⟨(j + 1, (a7, c7), (a8, c8)), ⟨rfl, rfl, rfl, rfl, rfl, rfl, rfl, v_int (by simp), trivial⟩, ⟨K7.trans0 k8, by omega, own_keep0 o7 k8, o8, fun e => absurd e hne⟩, by dsimp only; omega⟩
        · have hfl : (preC N d i (j + 1)).filter (fun c => decide (c.of = of)) = (preC N d i j).filter (fun c => decide (c.of = of)) := by rw [hstep, List.filter_append, List.filter_cons, if_neg (by simpa using hof)]; simp
          have hil : idsA (preC N d i (j + 1)) of = idsA (preC N d i j) of := by rw [hstep, ids_snoc, if_neg hof]
          refine KGO ?_
          exact ⟨(j + 1, (la2, lc2), (ia2, ic2)), ⟨rfl, rfl, rfl, rfl, by dsimp only; rw [hfl]; rfl, by dsimp only; rw [hil]; rfl, rfl, v_int (by simp), trivial⟩, ⟨Ka, by omega, by dsimp only; rw [hfl]; exact own_keep0 holq k_wa, by dsimp only; rw [hil]; exact own_keep0 hoiq k_wa, by dsimp only; rw [hil]; exact hnilq⟩, by dsimp only; omega⟩
      · rw [if_neg hdi2] at hstep
        refine KGO ?_
        exact ⟨(j + 1, (la2, lc2), (ia2, ic2)), ⟨rfl, rfl, rfl, rfl, by dsimp only; rw [hstep]; rfl, by dsimp only; rw [hstep]; rfl, rfl, v_int (by simp), trivial⟩, ⟨Ka, by omega, by dsimp only; rw [hstep]; exact own_keep0 holq k_wa, by dsimp only; rw [hstep]; exact own_keep0 hoiq k_wa, by dsimp only; rw [hstep]; exact hnilq⟩, by dsimp only; omega⟩
    · have hjn : j = nt.length := by omega
      subst hjn
      have hnx := preC_next (d := d) (show i < N.length by omega) hnte
      refine KGO ?_
      exact ⟨(i + 1, (la2, lc2), (ia2, ic2)), ⟨rfl, rfl, rfl, rfl, by dsimp only; rw [← hnx]; rfl, by dsimp only; rw [← hnx]; rfl, v_int (by simp), trivial⟩, ⟨hKq, by omega, by dsimp only; rw [← hnx]; exact holq, by dsimp only; rw [← hnx]; exact hoiq, by dsimp only; rw [← hnx]; exact hnilq⟩, by dsimp only; omega⟩
  · have hin : i = hs.length := by omega
    subst hin
    have hend : preC N d hs.length 0 = (N.drop d).flatten := by rw [← hNl]; exact preC_end N d
    have hcl := preC_len (N := N) d hs.length 0 hsm
    have hL1 : ∀ c ∈ (preC N d hs.length 0).filter (fun c => decide (c.of = of)), c.of = of ∧ 1 ≤ c.what := fun c hc => by
      obtain ⟨h1, h2⟩ := List.mem_filter.1 hc
      obtain ⟨l, h3, h4⟩ := preC_mem h1
      have := hfin l h3 c h4
      simp only [fineA, three, Bool.and_eq_true, decide_eq_true_eq] at this
      exact ⟨of_decide_eq_true h2, by omega⟩
    rw [hend] at hol hoi hcl hL1 ⊢
    clear hnil hend
    obtain ⟨cs, hcs⟩ : ∃ cs, (N.drop d).flatten = cs := ⟨_, rfl⟩
    rw [hcs] at hol hoi hcl hL1 ⊢
    have hll := List.length_filter_le (fun c => decide (c.of = of)) cs
    have hil2 := ids_len of cs
    have hff := fun id => fate_filter cs of id
    have hI1 : ∀ id ∈ idsA cs of, fate cs (of, id) ≠ none := fun id h => fate_some.2 ((mem_ids cs of id).1 h)
    unfold netA
    obtain ⟨L, hL⟩ : ∃ L, cs.filter (fun c => decide (c.of = of)) = L := ⟨_, rfl⟩
    obtain ⟨I, hI⟩ : ∃ I, idsA cs of = I := ⟨_, rfl⟩
    rw [hL] at hol hL1 hll ⊢
    rw [hI] at hoi hil2 hI1 ⊢
    simp only [hL] at hff
    obtain ⟨fa, hfa⟩ : ∃ fa : Int → Option (Bool × Bool), (fun id => fate cs (of, id)) = fa := ⟨_, rfl⟩
    have hfa' : ∀ id, fate cs (of, id) = fa id := fun id => by rw [← hfa]
    simp only [hfa'] at hff hI1 ⊢
    refine KGO ?_
    refine RunV.of (build_dl1 _ _) ?_
    refine KGO ?_
    have vk := VarK.new wr 40 [.slice none 0 0, .slice none 0 0, .slice none 0 0, .int .i64 k.state]
    refine Store.fresh (vs := [.slice none 0 0, .slice none 0 0, .slice none 0 0, .int .i64 k.state]) (by rfl) rfl (flat_of (by rfl)) ?_
    have a_b3 := at_fresh wr 40 ([.slice none 0 0, .slice none 0 0, .slice none 0 0, .int .i64 k.state])
    have k_w3 : Keeps wr (wr.alloc (.cells (List.toArray ([.slice none 0 0, .slice none 0 0, .slice none 0 0, .int .i64 k.state])) 40)) none_ := (Keeps.refl _ _).alloc _
    have z_w3 : (wr.alloc (.cells (List.toArray ([.slice none 0 0, .slice none 0 0, .slice none 0 0, .int .i64 k.state])) 40)).heap.size = wr.heap.size + 1 := by simp
    generalize wr.alloc (.cells (List.toArray ([.slice none 0 0, .slice none 0 0, .slice none 0 0, .int .i64 k.state])) 40) = w3 at *
    generalize hs_b3 : wr.heap.size = b3 at *
    have hol3 := own_keep0 hol k_w3
    have hoi3 := own_keep0 hoi k_w3
    refine KGO ?_
    have nilA : ∀ u, Apart (.slice none 0 0) u := fun u k hk => by cases hk
    have hb3 := vk.lt
    refine Loop.intro (ι := Nat × Sl × Sl × Sl) (fun i => [(6, .pointer (some ⟨db, 0, none⟩)), (8, .slice la L.length lc), (9, .slice ia I.length ic), (13, .pointer (some ⟨b3, 0, none⟩)), (14, .int .i64 (i.1 : Nat))])
      (fun i wr => Keeps w3 wr (one_ b3) ∧ i.1 ≤ I.length ∧ D3 w3.heap.size b3 k.state i.2.1 i.2.2.1 i.2.2.2 ((I.take i.1).filter fun n => decide (fa n = some (false, true))) ((I.take i.1).filter fun n => decide (fa n = some (true, true))) ((I.take i.1).filter fun n => decide (fa n = some (true, false))) wr)
      (fun i => I.length - i.1) (0, ⟨none, 0, 0⟩, ⟨none, 0, 0⟩, ⟨none, 0, 0⟩) ⟨rfl, rfl, rfl, rfl, rfl, trivial⟩
      ⟨Keeps.refl _ _, by omega, ⟨vk, World.ownsRow_nil _ _ _ _, World.ownsRow_nil _ _ _ _, World.ownsRow_nil _ _ _ _, nilA _, nilA _, nilA _, by omega⟩⟩ ?_
    rintro ⟨p, m, cc, g2⟩ gf3 wp ⟨hKp, hp, hD⟩
    dsimp only at hp hD ⊢
    (first | refine Then.go hmix ?_ | refine Sat.go hmix ?_ | refine ResK.go ?_ | skip); conv => whnf
    by_cases hpl : p < I.length
    · obtain ⟨gi, e1, _, hgi, hati⟩ := own_at hoi (by omega)
      subst e1
      have hatp : At wp gi 0 (I.flatMap inC) := at_keepc (at_mono hati k_w3) hKp (fun e => by have e : gi = b3 := e; omega)
      have cid := at_int hatp hpl
      have hidm : I[p] ∈ I := List.getElem_mem hpl
      have htf := fun x => take_filter_snoc hpl (fun n => decide (fa n = some x))
      obtain ⟨id, hid⟩ : ∃ id, I[p] = id := ⟨_, rfl⟩
      simp only [hid] at cid hidm htf
      have qp := Keeps.refl wp none_
      refine KGO ?_
      refine Loop.intro (ι := Nat) (fun q => [(6, .pointer (some ⟨db, 0, none⟩)), (8, .slice la L.length lc), (9, .slice (some ⟨gi, 0, none⟩) I.length ic), (13, .pointer (some ⟨b3, 0, none⟩)), (14, .int .i64 (p : Nat)), (15, .int .i64 (flst (L.take q) id).1), (16, .int .i64 (flst (L.take q) id).2), (17, .int .i64 (q : Nat))])
        (fun q wq => Keeps wp wq none_ ∧ q ≤ L.length) (fun q => L.length - q) 0 ⟨rfl, rfl, rfl, rfl, rfl, rfl, rfl, rfl, trivial⟩ ⟨Keeps.refl _ _, by omega⟩ ?_
      rintro q gq wq ⟨hKq, hq⟩
      (first | refine Then.go hmix ?_ | refine Sat.go hmix ?_ | refine ResK.go ?_ | skip); conv => whnf
      by_cases hql : q < L.length
      · obtain ⟨gl, e1, _, hgl, hatl⟩ := own_at hol (by omega)
        subst e1
        have hatq : At wp gl 0 (L.flatMap chC) := at_keepc (at_mono hatl k_w3) hKp (fun e => by have e : gl = b3 := e; omega)
        have hfs := flst_snoc (L.take q) L[q] id
        rw [← List.take_succ_eq_append_getElem hql] at hfs
        by_cases he : L[q].id = id
        · rw [if_pos he] at hfs
          by_cases hf0 : (flst (L.take q) id).1 = 0
          · rw [if_pos hf0] at hfs
            refine KGO ?_
            exact ⟨q + 1, ⟨rfl, rfl, rfl, rfl, rfl, v_int (by rw [hfs]), v_int (by rw [hfs]), v_int (by simp), trivial⟩, ⟨by first | exact hKq | exact hKq.drew, by omega⟩, by dsimp only; omega⟩
          · rw [if_neg hf0] at hfs
            refine KGO ?_
            exact ⟨q + 1, ⟨rfl, rfl, rfl, rfl, rfl, v_int (by rw [hfs]), v_int (by rw [hfs]), v_int (by simp), trivial⟩, ⟨by first | exact hKq | exact hKq.drew, by omega⟩, by dsimp only; omega⟩
        · rw [if_neg he] at hfs
          refine KGO ?_
          exact ⟨q + 1, ⟨rfl, rfl, rfl, rfl, rfl, v_int (by rw [hfs]), v_int (by rw [hfs]), v_int (by simp), trivial⟩, ⟨by first | exact hKq | exact hKq.drew, by omega⟩, by dsimp only; omega⟩
      · have hqe : q = L.length := by omega
        subst hqe
        rw [List.take_length]
        have hfl2 := fate_flst id L hL1
        rw [hff id] at hfl2
        have hn := hI1 id hidm
        obtain ⟨f, hf⟩ : ∃ f, (flst L id).1 = f := ⟨_, rfl⟩
        obtain ⟨l2, hl2⟩ : ∃ l2, (flst L id).2 = l2 := ⟨_, rfl⟩
        rw [hf, hl2] at hfl2 ⊢
        have hf0 : ¬ f = 0 := fun e => by rw [if_pos e] at hfl2; exact hn hfl2
        rw [if_neg hf0] at hfl2
        have hDq := hD.keep0 hKq
        have aD := hDq.va.at
        have qq := Keeps.refl wq none_
        have hatq : At wq gi 0 (I.flatMap inC) := at_mono hatp hKq
        have cid := at_int hatq hpl
        rw [hid] at cid
        have KK : Keeps w3 wq (one_ b3) := hKp.trans0 hKq
        have hFm := List.length_filter_le (fun n => decide (fa n = some (false, true))) (I.take p)
        have hFc := List.length_filter_le (fun n => decide (fa n = some (true, true))) (I.take p)
        have hFg := List.length_filter_le (fun n => decide (fa n = some (true, false))) (I.take p)
        rw [List.length_take] at hFm hFc hFg
        by_cases h1 : f = 1
        · by_cases h2 : l2 = 3
          · have e : fa id = some (false, false) := by rw [hfl2]; simp [h1, h2]
            have f1 := htf (false, true)
            have f2 := htf (true, true)
            have f3 := htf (true, false)
            rw [e, if_neg (by decide)] at f1 f2 f3
            refine KGO ?_
            exact ⟨(p + 1, m, cc, g2), ⟨rfl, rfl, rfl, rfl, v_int (by simp), trivial⟩, ⟨by first | exact KK | exact KK.drew, by dsimp only; omega, by dsimp only; rw [f1, f2, f3]; first | exact hDq | exact hDq.keep0 (Keeps.refl _ _).drew⟩, by dsimp only; omega⟩
          · have e : fa id = some (false, true) := by rw [hfl2]; simp [h1, h2]
            have f1 := htf (false, true)
            have f2 := htf (true, true)
            have f3 := htf (true, false)
            rw [e, if_pos (by decide)] at f1
            rw [e, if_neg (by decide)] at f2 f3
            refine KGO ?_
            have cI : wq.cell? ⟨b3, 0, none⟩ = some m.v := hDq.va.at 0 _ rfl
            refine Draw.heldEnd (fun u => Keeps wq u (own_ m.v) ∧ u.cell? ⟨b3, 0, none⟩ = some m.v ∧ u.cell? ⟨gi, 0 + p, none⟩ = some (.int .i64 id)) (fun _ => true) (by simp) (by decide +kernel) (by decide +kernel) ⟨(Keeps.refl _ _).drew, cI, cid⟩ ?_
            refine KGO ?_
            refine Held.one (by rfl) (fun u hu => hu.2.1) ?_
            refine KGO ?_
            refine Held.one (by rfl) (fun u hu => hu.2.2) ?_
            refine KGO ?_
            refine RunV.of (bs1I _ _) ?_
            have kE : Keeps wq (wq.drew.alloc (.cells (List.toArray (inC id)) 3)) none_ := (Keeps.refl _ _).drew.alloc _
            have hE := (VarK.new wq.drew 3 (inC id)).at
            generalize wq.drew.alloc (.cells (List.toArray (inC id)) 3) = we at kE hE ⊢
            have hDe := hDq.keep0 kE
            have KE := KK.trans0 kE
            refine ⟨⟨kE.of_none, cell_mono cI kE, cell_mono cid kE⟩, ?_⟩
            (first | refine Then.go hmix ?_ | refine Sat.go hmix ?_ | refine ResK.go ?_ | skip); conv => whnf
            have hszl := hDq.om.lt
            refine tyI.app1At id hDe.om KE.size hE (by omega) (by omega) fun v8 wf oF kF bF => ?_
            obtain ⟨a8, c8, rfl⟩ : ∃ x y, v8 = .slice x (((I.take p).filter fun n => decide (fa n = some (false, true))) ++ [id]).length y := own_shape oF
            have vF := hDe.va.keep kF (fun e => by have := (hDe.om.lt b3 e).1; have := hDe.hd; omega)
            have cidF : wf.cell? ⟨gi, 0 + p, none⟩ = some (.int .i64 id) := by
              have c1 := cell_mono cid kE
              exact (kF.cell (cell_ltS c1) (fun e => by have := (hDe.om.lt gi e).1; omega)).trans c1
            refine ⟨⟨(kE.of_none).trans' kF, vF.at 0 _ rfl, cidF⟩, ?_⟩
            (first | refine Then.go hmix ?_ | refine Sat.go hmix ?_ | refine ResK.go ?_ | skip); conv => whnf
            refine Store.cellK (i := 0) vF (by simp) (by rfl) ⟨rfl, by simp, by simp⟩ fun wg vg kG => ?_
            refine KGO ?_
            have hDg := hDe.made (m' := ⟨a8, (((I.take p).filter fun n => decide (fa n = some (false, true))) ++ [id]).length, c8⟩) oF kF bF vg kG
            have KG : Keeps w3 wg (one_ b3) := (own_leC hDe.om kF KE (Nat.le_refl _)).trans' kG
            exact ⟨(p + 1, ⟨a8, _, c8⟩, cc, g2), ⟨rfl, rfl, rfl, rfl, v_int (by simp), trivial⟩, ⟨KG, by dsimp only; omega, by dsimp only; rw [f1, f2, f3]; exact hDg⟩, by dsimp only; omega⟩
        · by_cases h2 : l2 = 3
          · have e : fa id = some (true, false) := by rw [hfl2]; simp [h1, h2]
            have f1 := htf (false, true)
            have f2 := htf (true, true)
            have f3 := htf (true, false)
            rw [e, if_pos (by decide)] at f3
            rw [e, if_neg (by decide)] at f1 f2
            refine KGO ?_
            have cI : wq.cell? ⟨b3, 2, none⟩ = some g2.v := hDq.va.at 2 _ rfl
            refine Draw.heldEnd (fun u => Keeps wq u (own_ g2.v) ∧ u.cell? ⟨b3, 2, none⟩ = some g2.v ∧ u.cell? ⟨gi, 0 + p, none⟩ = some (.int .i64 id)) (fun _ => true) (by simp) (by decide +kernel) (by decide +kernel) ⟨(Keeps.refl _ _).drew, cI, cid⟩ ?_
            refine KGO ?_
            refine Held.one (by rfl) (fun u hu => hu.2.1) ?_
            refine KGO ?_
            refine Held.one (by rfl) (fun u hu => hu.2.2) ?_
            refine KGO ?_
            refine RunV.of (bs1I _ _) ?_
            have kE : Keeps wq (wq.drew.alloc (.cells (List.toArray (inC id)) 3)) none_ := (Keeps.refl _ _).drew.alloc _
            have hE := (VarK.new wq.drew 3 (inC id)).at
            generalize wq.drew.alloc (.cells (List.toArray (inC id)) 3) = we at kE hE ⊢
            have hDe := hDq.keep0 kE
            have KE := KK.trans0 kE
            refine ⟨⟨kE.of_none, cell_mono cI kE, cell_mono cid kE⟩, ?_⟩
            (first | refine Then.go hmix ?_ | refine Sat.go hmix ?_ | refine ResK.go ?_ | skip); conv => whnf
            have hszl := hDq.og.lt
            refine tyI.app1At id hDe.og KE.size hE (by omega) (by omega) fun v8 wf oF kF bF => ?_
            obtain ⟨a8, c8, rfl⟩ : ∃ x y, v8 = .slice x (((I.take p).filter fun n => decide (fa n = some (true, false))) ++ [id]).length y := own_shape oF
            have vF := hDe.va.keep kF (fun e => by have := (hDe.og.lt b3 e).1; have := hDe.hd; omega)
            have cidF : wf.cell? ⟨gi, 0 + p, none⟩ = some (.int .i64 id) := by
              have c1 := cell_mono cid kE
              exact (kF.cell (cell_ltS c1) (fun e => by have := (hDe.og.lt gi e).1; omega)).trans c1
            refine ⟨⟨(kE.of_none).trans' kF, vF.at 2 _ rfl, cidF⟩, ?_⟩
            (first | refine Then.go hmix ?_ | refine Sat.go hmix ?_ | refine ResK.go ?_ | skip); conv => whnf
            refine Store.cellK (i := 2) vF (by simp) (by rfl) ⟨rfl, by simp, by simp⟩ fun wg vg kG => ?_
            refine KGO ?_
            have hDg := hDe.gone (g' := ⟨a8, (((I.take p).filter fun n => decide (fa n = some (true, false))) ++ [id]).length, c8⟩) oF kF bF vg kG
            have KG : Keeps w3 wg (one_ b3) := (own_leC hDe.og kF KE (Nat.le_refl _)).trans' kG
            exact ⟨(p + 1, m, cc, ⟨a8, _, c8⟩), ⟨rfl, rfl, rfl, rfl, v_int (by simp), trivial⟩, ⟨KG, by dsimp only; omega, by dsimp only; rw [f1, f2, f3]; exact hDg⟩, by dsimp only; omega⟩
          · have e : fa id = some (true, true) := by rw [hfl2]; simp [h1, h2]
            have f1 := htf (false, true)
            have f2 := htf (true, true)
            have f3 := htf (true, false)
            rw [e, if_pos (by decide)] at f2
            rw [e, if_neg (by decide)] at f1 f3
            refine KGO ?_
            have cI : wq.cell? ⟨b3, 1, none⟩ = some cc.v := hDq.va.at 1 _ rfl
            refine Draw.heldEnd (fun u => Keeps wq u (own_ cc.v) ∧ u.cell? ⟨b3, 1, none⟩ = some cc.v ∧ u.cell? ⟨gi, 0 + p, none⟩ = some (.int .i64 id)) (fun _ => true) (by simp) (by decide +kernel) (by decide +kernel) ⟨(Keeps.refl _ _).drew, cI, cid⟩ ?_
            refine KGO ?_
            refine Held.one (by rfl) (fun u hu => hu.2.1) ?_
            refine KGO ?_
            refine Held.one (by rfl) (fun u hu => hu.2.2) ?_
            refine KGO ?_
            refine RunV.of (bs1I _ _) ?_
            have kE : Keeps wq (wq.drew.alloc (.cells (List.toArray (inC id)) 3)) none_ := (Keeps.refl _ _).drew.alloc _
            have hE := (VarK.new wq.drew 3 (inC id)).at
            generalize wq.drew.alloc (.cells (List.toArray (inC id)) 3) = we at kE hE ⊢
            have hDe := hDq.keep0 kE
            have KE := KK.trans0 kE
            refine ⟨⟨kE.of_none, cell_mono cI kE, cell_mono cid kE⟩, ?_⟩
            (first | refine Then.go hmix ?_ | refine Sat.go hmix ?_ | refine ResK.go ?_ | skip); conv => whnf
            have hszl := hDq.oc.lt
            refine tyI.app1At id hDe.oc KE.size hE (by omega) (by omega) fun v8 wf oF kF bF => ?_
            obtain ⟨a8, c8, rfl⟩ : ∃ x y, v8 = .slice x (((I.take p).filter fun n => decide (fa n = some (true, true))) ++ [id]).length y := own_shape oF
            have vF := hDe.va.keep kF (fun e => by have := (hDe.oc.lt b3 e).1; have := hDe.hd; omega)
            have cidF : wf.cell? ⟨gi, 0 + p, none⟩ = some (.int .i64 id) := by
              have c1 := cell_mono cid kE
              exact (kF.cell (cell_ltS c1) (fun e => by have := (hDe.oc.lt gi e).1; omega)).trans c1
            refine ⟨⟨(kE.of_none).trans' kF, vF.at 1 _ rfl, cidF⟩, ?_⟩
            (first | refine Then.go hmix ?_ | refine Sat.go hmix ?_ | refine ResK.go ?_ | skip); conv => whnf
            refine Store.cellK (i := 1) vF (by simp) (by rfl) ⟨rfl, by simp, by simp⟩ fun wg vg kG => ?_
            refine KGO ?_
            have hDg := hDe.changed (c' := ⟨a8, (((I.take p).filter fun n => decide (fa n = some (true, true))) ++ [id]).length, c8⟩) oF kF bF vg kG
            have KG : Keeps w3 wg (one_ b3) := (own_leC hDe.oc kF KE (Nat.le_refl _)).trans' kG
            exact ⟨(p + 1, m, ⟨a8, _, c8⟩, g2), ⟨rfl, rfl, rfl, rfl, v_int (by simp), trivial⟩, ⟨KG, by dsimp only; omega, by dsimp only; rw [f1, f2, f3]; exact hDg⟩, by dsimp only; omega⟩
    · have hpe : p = I.length := by omega
      subst hpe
      simp only [List.take_length] at hD
      have aD := hD.va.at
      have qp := Keeps.refl wp none_
      refine KGO ?_
      have vdp : VarK wp db 40 [.slice none 0 0, .slice none 0 0, .slice none 0 0, .int .i64 0] := ((vd.keep0 hK).keep0 k_w3).keep hKp (fun e => by have e : db = b3 := e; have := vd.lt; have := hK.size; omega)
      have hdp : db < w3.heap.size := by have := vd.lt; have := hK.size; have := k_w3.size; omega
      refine Store.varK [m.v, cc.v, g2.v, .int .i64 k.state] vdp (by rfl) rfl (flat_of (by rfl)) fun wz vz kz => ?_
      have az := vz.at
      have qz := Keeps.refl wz none_
      refine KGO ?_
      (first | refine Then.go hmix ?_ | refine Sat.go hmix ?_ | refine ResK.go ?_ | skip); conv => whnf
      have szd : w.heap.size ≤ w3.heap.size := by have := kd.size; have := hK.size; have := k_w3.size; omega
      have Kw : Keeps w wz none_ := (((kd.trans0 hK).trans0 k_w3).trans hKp (fun i hi e => by have e : i = b3 := e; have := kd.size; have := hK.size; omega)).trans kz (fun i hi e => by have e : i = db := e; omega)
      have fin : ∀ {u : Value} {l : List Int}, OwnI wp w3.heap.size u l → OwnI wz w.heap.size u l := fun h => own_base (own_keep h kz fun q hq e => by have e : q = db := e; have := (h.lt q hq).1; omega) szd
      exact ⟨⟨m, cc, g2, rfl, fin hD.om, fin hD.oc, fin hD.og⟩, Kw⟩
end
end Go.Proofs.Ytcplagfblmemhaa
