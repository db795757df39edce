/- Helper text of this claim: Cy0, Cy1, Cx9: lemmas and contracts that the proved statement rests on; no conditions of its own. -/
import Derived.Test.YtcplagfblmemhaaCx8
import Derived.Test.YtcplagfblmemhaaGMapR
-- alias Try
namespace Go.Proofs.Ytcplagfblmemhaa
set_option linter.unusedVariables false
open Go.Shelf Go.RowKit Go.Pw Go.Vc Go.Cs Go.Lib Go.Cd Go.Cx
set_option linter.unusedVariables false
set_option maxRecDepth 100000
/-! ### The reference's book -/
/-- A note's cells: its state, its row. -/
def noC (p : Int × Sl) : List Value := [.int .i64 p.1, p.2.v]
theorem lenNo (p : Int × Sl) : (noC p).length = 2 := rfl
theorem noInfo : (Try.prog.info? 67).map (fun i => (i.zero, i.size, i.bytes)) = some (some (.agg #[.int .i64 0, .slice none 0 0]), 2, 32) := by kernel_rfl
theorem tyNo : RowTy 51 67 noC 2 32 := ⟨Try.underlying51, ⟨_, noInfo, by rfl⟩, by decide, lenNo, fun x u hu => by
  simp only [noC, List.mem_cons, List.not_mem_nil, or_false] at hu
  rcases hu with rfl | rfl <;> rfl⟩
structure RbAt (w : World) (B b : Nat) (v : Sl) (hs : List (Int × Sl)) (k : Bk) : Prop where
  var : VarK w b 53 [.int .i64 k.kept, .int .i64 k.state, v.v]
  own : w.ownsRow B 67 2 v.v hs.length (hs.flatMap noC)
  hl : hs.length = k.notes.length
  row : ∀ i (h : i < hs.length), hs[i].1 = firstA k + i + 1 ∧ w.ownsRow B 48 3 hs[i].2.v (k.notes[i]'(by omega)).length ((k.notes[i]'(by omega)).flatMap chC)
  good : GoodB k
section
variable {w : World}
theorem ry_State {B b : Nat} {v : Sl} {hs : List (Int × Sl)} {k : Bk} (h : RbAt w B b v hs k) : Calls Try.prog 19 #[.pointer (some ⟨b, 0, none⟩)] w fun e w' => e = .returned (.int .i64 k.state) ∧ Keeps w w' none_ := by
  have ha := h.var.at
  refine calls_of_vc (args := [.pointer (some ⟨b, 0, none⟩)]) Try.func19 rfl (Nat.le_of_ble_eq_true rfl) ?_; refine Sat.go hmix ?_; conv => whnf
  have q := Keeps.refl w none_
  refine KGO ?_
  exact ⟨rfl, q⟩
theorem ry_First {B b : Nat} {v : Sl} {hs : List (Int × Sl)} {k : Bk} (h : RbAt w B b v hs k) : Calls Try.prog 21 #[.pointer (some ⟨b, 0, none⟩)] w fun e w' => e = .returned (.int .i64 (firstA k)) ∧ Keeps w w' none_ := by
  have hn := own_nS h.own
  have g := h.good
  have := g.ns; have := g.s0; have := g.s1
  obtain ⟨a, n, c⟩ := v
  obtain rfl : n = hs.length := hn
  have hl := h.hl
  have ha : At w b 0 [.int .i64 k.kept, .int .i64 k.state, .slice a hs.length c] := h.var.at
  refine calls_of_vc (args := [.pointer (some ⟨b, 0, none⟩)]) Try.func21 rfl (Nat.le_of_ble_eq_true rfl) ?_; refine Sat.go hmix ?_; conv => whnf
  have q := Keeps.refl w none_
  refine KGO ?_
  refine ⟨ret_int ?_, q.drew⟩
  unfold firstA; omega
theorem build_rb (s k : Int) (w : World) : (Instr.build 53 [(0, .int .i64 k), (1, .int .i64 s)].toArray).run Try.prog w = .ok (.agg #[.int .i64 k, .int .i64 s, .slice none 0 0]) w := by
  simp [Instr.build, Instr.fill, go_sem, Try.runUnderlying53]
theorem ry_New (s k : Int) (hs : s ≤ 9223372036854775807) : Calls Try.prog 7 #[.int .i64 s, .int .i64 k] w fun e w' =>
    ((s < 0 ∨ k < 1 ∨ 256 < k) ∧ e = .returned (.pointer none) ∧ Keeps w w' none_) ∨
    (¬ (s < 0 ∨ k < 1 ∨ 256 < k) ∧ e = .returned (.pointer (some ⟨w.heap.size, 0, none⟩)) ∧ RbAt w' w.heap.size w.heap.size ⟨none, 0, 0⟩ [] ⟨s, k, []⟩ ∧ Keeps w w' none_) := by
  refine calls_of_vc (args := [.int .i64 s, .int .i64 k]) Try.func7 rfl (Nat.le_of_ble_eq_true rfl) ?_; refine Sat.go hmix ?_; conv => whnf
  by_cases h1 : s < 0
  · refine KGO ?_
    exact ⟨.inl ⟨.inl h1, rfl, Keeps.refl _ _⟩⟩
  by_cases h2 : k < 1
  · refine KGO ?_
    exact ⟨.inl ⟨.inr (.inl h2), rfl, Keeps.refl _ _⟩⟩
  by_cases h3 : 256 < k
  · refine KGO ?_
    exact ⟨.inl ⟨.inr (.inr h3), rfl, Keeps.refl _ _⟩⟩
  refine KGO ?_
  refine RunV.of (build_rb s k w) ?_
  (first | refine Then.go hmix ?_ | refine Sat.go hmix ?_ | refine ResK.go ?_ | skip); conv => whnf
  refine ⟨.inr ⟨by omega, rfl, ⟨VarK.new w 53 [.int .i64 k, .int .i64 s, .slice none 0 0], World.ownsRow_nil _ _ _ _, rfl, fun i hi => absurd hi (Nat.not_lt_zero i), good_new (by omega) hs (by omega) (by omega)⟩, (Keeps.refl _ _).alloc _⟩⟩
theorem ry_may (c : Chg) : Calls Try.prog 42 #[.agg (chC c).toArray] w fun e w' => e = .returned (.bool (fineA c)) ∧ Keeps w w' none_ := by
  refine calls_of_vc (args := [.agg (chC c).toArray]) Try.func42 rfl (Nat.le_of_ble_eq_true rfl) ?_; refine Sat.go hmix ?_; conv => whnf
  have a_b1 := at_fresh w 48 (chC c)
  have v_b1 := VarK.new w 48 (chC c)
  have k_w1 : Keeps w (w.alloc (.cells (List.toArray (chC c)) 48)) none_ := (Keeps.refl _ _).alloc _
  have z_w1 : (w.alloc (.cells (List.toArray (chC c)) 48)).heap.size = w.heap.size + 1 := by simp
  generalize w.alloc (.cells (List.toArray (chC c)) 48) = w1 at *
  generalize hs_b1 : w.heap.size = b1 at *
  have r_w1 : Keeps w1 w1 none_ := Keeps.refl _ _
  unfold fineA three
  by_cases h1 : 1 ≤ c.of
  · by_cases h2 : c.of ≤ 3
    · by_cases h3 : 0 ≤ c.id
      · by_cases h4 : 1 ≤ c.what
        · by_cases h5 : c.what ≤ 3
          · refine KGO ?_
            exact ⟨ret_bool (by simp [*]), k_w1⟩
          · refine KGO ?_
            exact ⟨ret_bool (by simp [*]), k_w1⟩
        · refine KGO ?_
          exact ⟨ret_bool (by simp [*]), k_w1⟩
      · refine KGO ?_
        exact ⟨ret_bool (by simp [*]), k_w1⟩
    · refine KGO ?_
      exact ⟨ret_bool (by simp [*]), k_w1⟩
  · refine KGO ?_
    exact ⟨ret_bool (by simp [*]), k_w1⟩
end
end Go.Proofs.Ytcplagfblmemhaa

-- alias Try
namespace Go.Proofs.Ytcplagfblmemhaa
set_option linter.unusedVariables false
open Go.Shelf Go.RowKit Go.Pw Go.Vc Go.Cs Go.Lib Go.Cd Go.Cx
set_option linter.unusedVariables false
set_option maxRecDepth 100000
theorem putS_stop (n : Int) : ∀ (L : List Int) (k : Nat), k ≤ L.length → (∀ j (h : j < L.length), j < k → L[j] < n) → (∀ h : k < L.length, n < L[k]) → putS L n = L.take k ++ n :: L.drop k
  | [], k, hk, _, _ => by simp [putS]
  | x :: L, 0, _, _, h2 => by
    have := h2 (by simp)
    rw [List.getElem_cons_zero] at this
    unfold putS
    rw [if_neg (by omega), if_neg (by omega)]; rfl
  | x :: L, k + 1, hk, h1, h2 => by
    have hx := h1 0 (by simp) (by omega)
    rw [List.getElem_cons_zero] at hx
    unfold putS
    rw [if_pos hx, putS_stop n L k (by simpa using hk) (fun j h hj => by have := h1 (j + 1) (by simpa using h) (by omega); simpa using this) (fun h => by have := h2 (by simpa using h); simpa using this)]
    rfl
theorem putS_have (n : Int) : ∀ (L : List Int) (k : Nat) (hk : k < L.length), (∀ j (h : j < L.length), j < k → L[j] < n) → L[k] = n → putS L n = L
  | x :: L, 0, _, _, h2 => by
    rw [List.getElem_cons_zero] at h2
    unfold putS
    rw [if_neg (by omega), if_pos h2]
  | x :: L, k + 1, hk, h1, h2 => by
    have hx := h1 0 (by simp) (by omega)
    rw [List.getElem_cons_zero] at hx
    unfold putS
    rw [if_pos hx, putS_have n L k (by simpa using hk) (fun j h hj => by have := h1 (j + 1) (by simpa using h) (by omega); simpa using this) (by simpa using h2)]
section
variable {w : World}
set_option maxHeartbeats 4000000 in
theorem ry_put {B : Nat} {v : Value} (L : List Int) (n : Int) (ho : OwnI w B v L) (hB : B ≤ w.heap.size) (hl : L.length ≤ 1000000) (hnil : L = [] → v = .slice none 0 0) :
    Calls Try.prog 44 #[v, .int .i64 n] w fun e w' => ∃ v', e = .returned v' ∧ OwnI w' B v' (putS L n) ∧ Keeps w w' none_ := by
  obtain ⟨va, vc, rfl⟩ : ∃ x y, v = .slice x L.length y := own_shape ho
  refine calls_of_vc (args := [.slice va L.length vc, .int .i64 n]) Try.func44 rfl (Nat.le_of_ble_eq_true rfl) ?_; refine Sat.go hmix ?_; conv => whnf
  refine KGO ?_
  refine Loop.intro (ι := Nat) (fun k => [(0, .slice va L.length vc), (1, .int .i64 n), (5, .int .i64 (k : Nat))])
    (fun k wr => Keeps w wr none_ ∧ k ≤ L.length ∧ ∀ j (h : j < L.length), j < k → L[j] < n) (fun k => L.length - k) 0 ⟨rfl, rfl, rfl, trivial⟩ ⟨Keeps.refl _ _, by omega, fun j _ h => absurd h (Nat.not_lt_zero j)⟩ ?_
  rintro k g w1 ⟨hK, hk, hlt⟩
  (first | refine Then.go hmix ?_ | refine Sat.go hmix ?_ | refine ResK.go ?_ | skip); conv => whnf
  have o1 := own_keep0 ho hK
  have q1 := Keeps.refl w1 none_
  by_cases hkl : k < L.length
  · obtain ⟨gb, e1, hBg, hgw, hat⟩ := own_at o1 (by omega)
    subst e1
    have hatk : w1.cell? ⟨gb, 0 + k, none⟩ = some (.int .i64 L[k]) := hat k _ (by rw [show (L.flatMap inC) = L.map (Value.int .i64) from flat1 _ L]; simp [hkl])
    by_cases hx : L[k] < n
    · refine KGO ?_
      exact ⟨k + 1, ⟨rfl, rfl, v_int (by simp), trivial⟩, ⟨hK, by omega, fun j h hj => (Nat.lt_or_ge j k).elim (fun h' => hlt j h h') (fun h' => by have e : j = k := (by omega); subst e; exact hx)⟩, by dsimp only; omega⟩
    · by_cases hxe : L[k] = n
      · refine KGO ?_
        exact ⟨_, rfl, by rw [putS_have n L k hkl hlt hxe]; exact o1, hK⟩
      · have hcap := own_cap o1
        have hfin := putS_stop n L k hk hlt (fun _ => by omega)
        refine KGO ?_
        rw [if_neg (by omega : ¬ 0 = vc)]
        refine KGO ?_
        refine tyI.app (l := []) (L.take k) (World.ownsRow_nil _ w1.heap.size _ _) (Nat.le_refl _) (by rw [List.length_take]; omega) (fun _ => ⟨gb, _, rfl, by simpa using at_takeR lenI hat k⟩) (by rw [List.length_take, List.length_nil]; omega) (by rw [List.length_take, List.length_nil]; omega) fun v2 w2 o2 k2 => ?_
        have K2 : Keeps w1 w2 none_ := k2.mono fun q _ h => by cases h
        rw [List.nil_append] at o2
        obtain ⟨a2, c2, rfl⟩ := own_shape o2
        have hlt2 : (L.take k).length = k := by rw [List.length_take]; omega
        refine KGO ?_
        refine RunV.of (bs1I _ _) ?_
        have k3 : Keeps w2 (w2.alloc (.cells (List.toArray (inC n)) 3)) none_ := (Keeps.refl _ _).alloc _
        have h3 := at_fresh w2 3 (inC n)
        have o3 := own_keep0 o2 k3
        generalize w2.alloc (.cells (List.toArray (inC n)) 3) = w3 at *
        generalize w2.heap.size = g3 at *
        refine KGO ?_
        refine tyI.app1 n o3 (K2.trans0 k3).size h3 (by omega) (by omega) fun v4 w4 o4 k4 => ?_
        have K4 : Keeps w1 w4 none_ := own_le o3 k4 w1 (K2.trans0 k3) (Nat.le_refl _)
        obtain ⟨a4, c4, rfl⟩ := own_shape o4
        have hat4 := at_mono hat K4
        refine KGO ?_
        refine tyI.app (L.drop k) o4 K4.size (by rw [List.length_drop]) (fun hpos => ?_) (by rw [List.length_append, List.length_drop]; simp; omega) (by rw [List.length_append, List.length_drop]; simp; omega) fun v5 w5 o5 k5 => ?_
        · rw [if_neg (by omega : ¬ k = vc)]
          exact ⟨gb, _, rfl, by simpa using at_dropR lenI hat4 k⟩
        have K5 : Keeps w1 w5 none_ := own_le o4 k5 w1 K4 (Nat.le_refl _)
        rw [List.append_assoc, List.singleton_append, ← hfin] at o5
        obtain ⟨a5, c5, rfl⟩ := own_shape o5
        refine KGO ?_
        exact ⟨_, rfl, own_base o5 (Nat.le_trans hB hK.size), hK.trans0 K5⟩
  · have hcap := own_cap o1
    have hfin := putS_stop n L k hk hlt (fun h => absurd h hkl)
    have hkk : k = L.length := by omega
    by_cases h0 : L = []
    · have e := hnil h0
      subst h0
      injection e with e1 _ e3
      subst e1; subst e3
      obtain rfl : k = 0 := hkk
      clear hnil hcap hkl hlt hk hl
      refine KGO ?_
      refine nilR_cut2 tyI rfl ?_
      refine KGO ?_
      refine tyI.app (l := []) [] (World.ownsRow_nil _ w1.heap.size _ _) (Nat.le_refl _) rfl (fun h => absurd h (Nat.lt_irrefl 0)) (by simp) (by simp) fun v2 w2 o2 k2 => ?_
      have K2 : Keeps w1 w2 none_ := k2.mono fun q _ h => by cases h
      rw [List.nil_append] at o2
      obtain ⟨a2, c2, rfl⟩ := own_shape o2
      refine KGO ?_
      refine RunV.of (bs1I _ _) ?_
      have k3 : Keeps w2 (w2.alloc (.cells (List.toArray (inC n)) 3)) none_ := (Keeps.refl _ _).alloc _
      have h3 := at_fresh w2 3 (inC n)
      have o3 := own_keep0 o2 k3
      generalize w2.alloc (.cells (List.toArray (inC n)) 3) = w3 at *
      generalize w2.heap.size = g3 at *
      refine KGO ?_
      refine tyI.app1 n o3 (K2.trans0 k3).size h3 (by simp) (by simp) fun v4 w4 o4 k4 => ?_
      have K4 : Keeps w1 w4 none_ := own_le o3 k4 w1 (K2.trans0 k3) (Nat.le_refl _)
      obtain ⟨a4, c4, rfl⟩ := own_shape o4
      refine KGO ?_
      refine nilR_cut tyI rfl ?_
      refine KGO ?_
      refine tyI.app [] o4 K4.size rfl (fun h => absurd h (Nat.lt_irrefl 0)) (by simp) (by simp) fun v5 w5 o5 k5 => ?_
      have K5 : Keeps w1 w5 none_ := own_le o4 k5 w1 K4 (Nat.le_refl _)
      obtain ⟨a5, c5, rfl⟩ := own_shape o5
      refine KGO ?_
      exact ⟨_, rfl, own_base o5 (Nat.le_trans hB hK.size), hK.trans0 K5⟩
    · have hp : 0 < L.length := List.length_pos_iff.2 h0
      obtain ⟨gb, e1, hBg, hgw, hat⟩ := own_at o1 (by omega)
      subst e1
      refine KGO ?_
      refine KGO ?_
      rw [if_neg (by omega : ¬ 0 = vc)]
      refine KGO ?_
      refine tyI.app (l := []) (L.take k) (World.ownsRow_nil _ w1.heap.size _ _) (Nat.le_refl _) (by rw [List.length_take]; omega) (fun _ => ⟨gb, _, rfl, by simpa using at_takeR lenI hat k⟩) (by rw [List.length_take, List.length_nil]; omega) (by rw [List.length_take, List.length_nil]; omega) fun v2 w2 o2 k2 => ?_
      have K2 : Keeps w1 w2 none_ := k2.mono fun q _ h => by cases h
      rw [List.nil_append] at o2
      obtain ⟨a2, c2, rfl⟩ := own_shape o2
      have hlt2 : (L.take k).length = k := by rw [List.length_take]; omega
      refine KGO ?_
      refine RunV.of (bs1I _ _) ?_
      have k3 : Keeps w2 (w2.alloc (.cells (List.toArray (inC n)) 3)) none_ := (Keeps.refl _ _).alloc _
      have h3 := at_fresh w2 3 (inC n)
      have o3 := own_keep0 o2 k3
      generalize w2.alloc (.cells (List.toArray (inC n)) 3) = w3 at *
      generalize w2.heap.size = g3 at *
      refine KGO ?_
      refine tyI.app1 n o3 (K2.trans0 k3).size h3 (by omega) (by omega) fun v4 w4 o4 k4 => ?_
      have K4 : Keeps w1 w4 none_ := own_le o3 k4 w1 (K2.trans0 k3) (Nat.le_refl _)
      obtain ⟨a4, c4, rfl⟩ := own_shape o4
      have hat4 := at_mono hat K4
      refine KGO ?_
      refine tyI.app (L.drop k) o4 K4.size (by rw [List.length_drop]) (fun hpos => ?_) (by rw [List.length_append, List.length_drop]; simp; omega) (by rw [List.length_append, List.length_drop]; simp; omega) fun v5 w5 o5 k5 => ?_
      · rw [if_neg (by omega : ¬ k = vc)]
        exact ⟨gb, _, rfl, by simpa using at_dropR lenI hat4 k⟩
      have K5 : Keeps w1 w5 none_ := own_le o4 k5 w1 K4 (Nat.le_refl _)
      rw [List.append_assoc, List.singleton_append, ← hfin] at o5
      obtain ⟨a5, c5, rfl⟩ := own_shape o5
      refine KGO ?_
      exact ⟨_, rfl, own_base o5 (Nat.le_trans hB hK.size), hK.trans0 K5⟩
end
end Go.Proofs.Ytcplagfblmemhaa

/-! Read and Bytes are inverse; the reference's first and last. -/
namespace Go.Cx
set_option linter.unusedVariables false
open Go.Cs Go.Lib Go.Cd
set_option linter.unusedVariables false
theorem numR_enc {n : Nat} (h : n < 2 ^ 63) (r : List UInt8) : numR (some (numE n ++ r)) = (n, some r) := by
  show (match numD 9 false (numE n ++ r) with | none => ((0 : Nat), (none : St)) | some (n, r) => (n, some r)) = _
  simp only [dec_enc h]
theorem numR_dec {s : St} {n : Nat} {r : List UInt8} (h : numR s = (n, some r)) : s = some (numE n ++ r) ∧ n < 2 ^ 63 := by
  cases s with
  | none => cases h
  | some u =>
    have h : (match numD 9 false u with | none => ((0 : Nat), (none : St)) | some (n, r) => (n, some r)) = (n, some r) := h
    cases hd : numD 9 false u with
    | none => simp only [hd] at h; cases h
    | some p =>
      obtain ⟨m, q⟩ := p
      simp only [hd] at h
      injection h with h1 h2
      injection h2 with h2
      subst h1; subst h2
      obtain ⟨h3, h4⟩ := enc_dec hd
      exact ⟨by rw [h3], h4⟩
theorem numsG_enc : ∀ (l : List Nat) (r : List UInt8), (∀ n ∈ l, n < 2 ^ 63) → numsG l.length (some (l.flatMap numE ++ r)) = (l, some r)
  | [], r, _ => rfl
  | n :: l, r, h => by
    rw [List.flatMap_cons, List.append_assoc, List.length_cons]
    unfold numsG
    rw [numR_enc (h n List.mem_cons_self)]
    simp only [numsG_enc l r fun x hx => h x (List.mem_cons_of_mem _ hx)]
theorem numsG_dec : ∀ (k : Nat) (s : St) (l : List Nat) (r : List UInt8), numsG k s = (l, some r) → s = some (l.flatMap numE ++ r) ∧ l.length = k
  | 0, s, l, r, h => by
    unfold numsG at h
    injection h with h1 h2
    subst h1; exact ⟨by rw [h2]; rfl, rfl⟩
  | k + 1, s, l, r, h => by
    unfold numsG at h
    cases hn : numR s with
    | mk n t =>
      rw [hn] at h
      cases t with
      | none => cases h
      | some q =>
        dsimp only at h
        cases hg : numsG k (some q) with
        | mk l2 s2 =>
          rw [hg] at h
          injection h with h1 h2
          subst h1; subst h2
          obtain ⟨h3, h4⟩ := numsG_dec k _ _ _ hg
          injection h3 with h3
          subst h3
          exact ⟨by rw [(numR_dec hn).1, List.flatMap_cons, List.append_assoc], by rw [List.length_cons, h4]⟩
theorem flat_ge (l : List Nat) : l.length ≤ (l.flatMap numE).length := by
  induction l with
  | nil => simp
  | cons n l ih => have := numE_pos n; rw [List.flatMap_cons, List.length_append, List.length_cons]; omega
theorem numsR_enc (l : List Nat) (r : List UInt8) (h : ∀ n ∈ l, n < 2 ^ 63) (hl : l.length < 2 ^ 63) : numsR (some (numsE l ++ r)) = (l, some r) := by
  unfold numsR numsE
  rw [List.append_assoc, numR_enc hl]
  dsimp only
  have := flat_ge l
  rw [if_neg (by rw [List.length_append]; omega), numsG_enc l r h]
theorem numsR_dec {s : St} {l : List Nat} {r : List UInt8} (h : numsR s = (l, some r)) : s = some (numsE l ++ r) := by
  unfold numsR at h
  cases hn : numR s with
  | mk n t =>
    rw [hn] at h
    cases t with
    | none => cases h
    | some q =>
      dsimp only at h
      split at h
      · cases h
      · cases hg : numsG n (some q) with
        | mk l2 s2 =>
          rw [hg] at h
          cases s2 with
          | none => cases h
          | some r2 =>
            injection h with h1 h2
            injection h2 with h2
            subst h1; subst h2
            obtain ⟨h3, h4⟩ := numsG_dec _ _ _ _ hg
            injection h3 with h3
            rw [(numR_dec hn).1, h3, ← h4]
            unfold numsE; rw [List.append_assoc]
theorem flatC_bound {l : List Chg} (hf : ∀ c ∈ l, fineA c = true) (hid : ∀ c ∈ l, c.id < 9223372036854775808) : ∀ n ∈ flatC l, n < 2 ^ 63 := fun n hn => by
  obtain ⟨c, hc, hn⟩ := List.mem_flatMap.1 hn
  have h := hf c hc
  have h2 := hid c hc
  simp only [fineA, three, Bool.and_eq_true, decide_eq_true_eq] at h
  rcases List.mem_cons.1 hn with rfl | hn
  · omega
  rcases List.mem_cons.1 hn with rfl | hn
  · omega
  rw [List.mem_singleton.1 hn]; omega
theorem flatC_lenN (l : List Chg) : (flatC l).length = 3 * l.length := by
  induction l with
  | nil => rfl
  | cons c l ih =>
    show ((([c.of.toNat, c.id.toNat, c.what.toNat] : List Nat) ++ flatC l)).length = _
    rw [List.length_append, ih]; simp; omega
theorem noteA_ok {k : Bk} {l : List Chg} (h1 : k.state < 9223372036854775807) (h2 : l.length ≤ 65536) (h3 : ∀ c ∈ l, fineA c = true) (h4 : (k.notes.length : Int) < k.kept) : noteA k (k.state + 1) l = (0, ⟨k.state + 1, k.kept, k.notes ++ [l]⟩) := by
  unfold noteA
  rw [if_neg (fun e => by rcases e with e | e <;> omega), if_neg (fun e => by
    rcases e with e | e
    · omega
    · obtain ⟨c, hc, h⟩ := List.any_eq_true.1 e
      rw [h3 c hc] at h; cases h), if_neg (by push_cast; omega)]
theorem readG_enc : ∀ (L : List (List Chg)) (k : Bk) (r : List UInt8), (∀ l ∈ L, l.length ≤ 65536 ∧ (∀ c ∈ l, fineA c = true) ∧ ∀ c ∈ l, c.id < 9223372036854775808) → k.state + L.length ≤ 9223372036854775807 → (k.notes.length : Int) + L.length ≤ k.kept →
    readG L.length k (some ((L.flatMap fun l => numsE (flatC l)) ++ r)) = some (⟨k.state + L.length, k.kept, k.notes ++ L⟩, some r)
  | [], k, r, _, _, _ => by
    obtain ⟨a, b, c⟩ := k
    simp [readG]
  | l :: L, k, r, h, hs, hk => by
    obtain ⟨h1, h2, h3⟩ := h l List.mem_cons_self
    rw [List.length_cons] at hs hk
    rw [List.flatMap_cons, List.append_assoc, List.length_cons]
    unfold readG
    rw [numsR_enc _ _ (flatC_bound h2 h3) (by rw [flatC_lenN]; omega)]
    dsimp only
    rw [chunk_flat l h2]
    dsimp only
    rw [noteA_ok (by omega) h1 h2 (by omega)]
    rw [if_pos rfl, readG_enc L _ r (fun x hx => h x (List.mem_cons_of_mem _ hx)) (by dsimp only; omega) (by dsimp only; rw [List.length_append, List.length_singleton]; omega)]
    congr 3
    · push_cast; omega
    · simp
/-- What was written is read. -/
theorem bytes_read {k : Bk} (g : GoodB k) (hid : ∀ l ∈ k.notes, ∀ c ∈ l, c.id < 9223372036854775808) : readA (bytesA k) = some k := by
  have g1 := g.ns; have g2 := g.s0; have g3 := g.s1; have g4 := g.nk; have g5 := g.k1; have g6 := g.k0
  unfold readA bytesA
  rw [List.append_assoc, List.append_assoc, numR_enc (by omega)]
  dsimp only
  rw [numR_enc (by unfold firstA; omega)]
  dsimp only
  rw [numR_enc (by omega)]
  dsimp only
  rw [if_neg (by omega)]
  have := readG_enc k.notes ⟨(firstA k).toNat, k.kept.toNat, []⟩ [] (fun l hl => ⟨g.len l hl, g.fine l hl, hid l hl⟩) (by dsimp only; unfold firstA; omega) (by dsimp only; simp only [List.length_nil]; omega)
  rw [List.append_nil] at this
  rw [this]
  dsimp only
  rw [if_pos rfl]
  obtain ⟨a, b, c⟩ := k
  simp only [firstA, List.nil_append, Option.some.injEq, Bk.mk.injEq, and_true] at *
  omega
theorem readG_dec : ∀ (m : Nat) (k : Bk) (s : St) (k' : Bk) (r : List UInt8), readG m k s = some (k', some r) → (k.notes.length : Int) + m ≤ k.kept → ∃ L : List (List Chg), L.length = m ∧ s = some ((L.flatMap fun l => numsE (flatC l)) ++ r) ∧ k' = ⟨k.state + m, k.kept, k.notes ++ L⟩
  | 0, k, s, k', r, h, hk => by
    unfold readG at h
    injection h with h
    injection h with h1 h2
    subst h1; subst h2
    obtain ⟨a, b, c⟩ := k
    exact ⟨[], rfl, rfl, by simp⟩
  | m + 1, k, s, k', r, h, hk => by
    unfold readG at h
    cases hn : numsR s with
    | mk n s2 =>
      rw [hn] at h
      dsimp only at h
      cases hc : chunkC n with
      | none => rw [hc] at h; cases h
      | some l =>
        rw [hc] at h
        dsimp only at h
        split at h
        · rename_i h0
          have hnote : (noteA k (k.state + 1) l).2 = ⟨k.state + 1, k.kept, k.notes ++ [l]⟩ := by
            unfold noteA at h0 ⊢
            split at h0
            · cases h0
            split at h0
            · cases h0
            rename_i q1 q2
            rw [if_neg q1, if_neg q2]
            dsimp only
            rw [if_neg (by push_cast; omega)]
          rw [hnote] at h
          obtain ⟨L, h1, h2, h3⟩ := readG_dec m _ _ _ _ h (by dsimp only; rw [List.length_append, List.length_singleton]; omega)
          subst h2
          refine ⟨l :: L, by rw [List.length_cons, h1], ?_, ?_⟩
          · rw [numsR_dec hn, List.flatMap_cons, flat_chunk n l hc, List.append_assoc]
          · rw [h3]
            dsimp only
            congr 1
            · push_cast; omega
            · simp
        · cases h
/-- What is read was written so. -/
theorem read_bytes {u : List UInt8} {k : Bk} (h : readA u = some k) : bytesA k = u := by
  unfold readA at h
  cases h1 : numR (some u) with
  | mk kept s1 =>
    rw [h1] at h; dsimp only at h
    cases h2 : numR s1 with
    | mk first s2 =>
      rw [h2] at h; dsimp only at h
      cases h3 : numR s2 with
      | mk many s3 =>
        rw [h3] at h; dsimp only at h
        split at h
        · cases h
        rename_i hb
        cases hr : readG many ⟨first, kept, []⟩ s3 with
        | none => rw [hr] at h; cases h
        | some p =>
          obtain ⟨k', s⟩ := p
          rw [hr] at h
          dsimp only at h
          split at h
          · rename_i hs
            subst hs
            injection h with h
            subst h
            obtain ⟨L, l1, l2, l3⟩ := readG_dec _ _ _ _ _ hr (by dsimp only; simp only [List.length_nil]; omega)
            subst l2
            obtain ⟨q3, _⟩ := numR_dec h3
            subst q3
            obtain ⟨q2, _⟩ := numR_dec h2
            subst q2
            obtain ⟨q1, _⟩ := numR_dec h1
            injection q1 with q1
            rw [q1, l3]
            unfold bytesA firstA
            simp only [List.nil_append, l1, List.append_nil, Int.toNat_natCast]
            rw [show ((first : Int) + many - many).toNat = first by omega]
            simp
          · cases h
/-! ### First and last -/
def flst (l : List Chg) (id : Int) : Int × Int := l.foldl (fun p c => if c.id = id then (if p.1 = 0 then c.what else p.1, c.what) else p) (0, 0)
theorem flst_snoc (l : List Chg) (c : Chg) (id : Int) : flst (l ++ [c]) id = if c.id = id then (if (flst l id).1 = 0 then c.what else (flst l id).1, c.what) else flst l id := by
  unfold flst; rw [List.foldl_append]; rfl
theorem fate_flst {of : Int} (id : Int) (l : List Chg) (h : ∀ c ∈ l, c.of = of ∧ 1 ≤ c.what) : fate l (of, id) = if (flst l id).1 = 0 then none else some (decide ((flst l id).1 ≠ 1), decide ((flst l id).2 ≠ 3)) := by
  induction l using snocInd with
  | h0 => rfl
  | hs l c ih =>
    have ih := ih fun x hx => h x (List.mem_append_left _ hx)
    obtain ⟨h1, h2⟩ := h c (by simp)
    rw [fate_snoc, flst_snoc]
    by_cases hc : c.id = id
    · rw [if_pos (show keyC c = (of, id) by unfold keyC; rw [h1, hc]), if_pos hc, ih]
      by_cases h0 : (flst l id).1 = 0
      · rw [if_pos h0, if_pos h0]
        dsimp only
        rw [if_neg (by omega)]; rfl
      · rw [if_neg h0, if_neg h0]
        dsimp only
        rw [if_neg h0]; rfl
    · rw [if_neg (fun e => hc (by unfold keyC at e; injection e)), if_neg hc, ih]
theorem fate_filter (cs : List Chg) (of id : Int) : fate (cs.filter fun c => decide (c.of = of)) (of, id) = fate cs (of, id) := by
  unfold fate
  rw [List.filter_filter]
  congr 1
  refine List.filter_congr fun c _ => ?_
  rw [Bool.eq_iff_iff]
  simp only [Bool.and_eq_true, decide_eq_true_eq, Prod.mk.injEq]
  exact ⟨fun h => h.1, fun h => ⟨h, h.1⟩⟩
theorem ids_snoc (cs : List Chg) (c : Chg) (of : Int) : idsA (cs ++ [c]) of = if c.of = of then putS (idsA cs of) c.id else idsA cs of := by
  unfold idsA
  rw [List.filter_append]
  by_cases h : c.of = of
  · rw [if_pos h, List.filter_cons, if_pos (by simpa using h), List.foldl_append]; rfl
  · rw [if_neg h, List.filter_cons, if_neg (by simpa using h)]; simp
theorem putS_len (n : Int) : ∀ l : List Int, (putS l n).length ≤ l.length + 1
  | [] => by simp [putS]
  | x :: l => by
    unfold putS
    have := putS_len n l
    split
    · simp; omega
    · split <;> simp
theorem ids_len (of : Int) (cs : List Chg) : (idsA cs of).length ≤ cs.length := by
  induction cs using snocInd with
  | h0 => simp [idsA]
  | hs cs c ih =>
    rw [ids_snoc, List.length_append, List.length_singleton]
    have := putS_len c.id (idsA cs of)
    split <;> omega
theorem numsG_bound : ∀ (k : Nat) (s : St), ∀ n ∈ (numsG k s).1, n < 2 ^ 63
  | 0, s, n, h => by cases h
  | k + 1, s, n, h => by
    unfold numsG at h
    cases hn : numR s with
    | mk m t =>
      rw [hn] at h
      cases t with
      | none => cases h
      | some q =>
        dsimp only at h
        have ih := numsG_bound k (some q)
        cases hg : numsG k (some q) with
        | mk l2 s2 =>
          rw [hg] at h ih
          rcases List.mem_cons.1 h with rfl | h
          · exact (numR_dec hn).2
          · exact ih n h
theorem numsR_bound (s : St) : ∀ n ∈ (numsR s).1, n < 2 ^ 63 := fun n h => by
  unfold numsR at h
  cases hn : numR s with
  | mk m t =>
    rw [hn] at h
    cases t with
    | none => cases h
    | some q =>
      dsimp only at h
      split at h
      · cases h
      · have ih := numsG_bound m (some q)
        cases hg : numsG m (some q) with
        | mk l2 s2 =>
          rw [hg] at h ih
          cases s2 with
          | none => cases h
          | some r2 => exact ih n h
theorem chunk_ids : ∀ (n : List Nat) (l : List Chg), chunkC n = some l → (∀ x ∈ n, x < 2 ^ 63) → ∀ c ∈ l, c.id < 9223372036854775808
  | [], l, h, _, c, hc => by injection h with h; subst h; cases hc
  | [_], _, h, _, _, _ => by cases h
  | [_, _], _, h, _, _, _ => by cases h
  | a :: b :: c' :: r, l, h, hb, c, hc => by
    unfold chunkC at h
    cases hr : chunkC r with
    | none => rw [hr] at h; cases h
    | some l' =>
      rw [hr] at h
      injection h with h
      subst h
      rcases List.mem_cons.1 hc with rfl | hc
      · have := hb b (by simp); dsimp only; omega
      · exact chunk_ids r l' hr (fun x hx => hb x (by simp [hx])) c hc
theorem readG_ids : ∀ (m : Nat) (k : Bk) (s : St) (k' : Bk) (s' : St), readG m k s = some (k', s') → (∀ l ∈ k.notes, ∀ c ∈ l, c.id < 9223372036854775808) → ∀ l ∈ k'.notes, ∀ c ∈ l, c.id < 9223372036854775808
  | 0, k, s, k', s', h, hk => by
    unfold readG at h
    injection h with h
    injection h with h1 h2
    subst h1; exact hk
  | m + 1, k, s, k', s', h, hk => by
    unfold readG at h
    have hb := numsR_bound s
    cases hn : numsR s with
    | mk n s2 =>
      rw [hn] at h hb
      dsimp only at h hb
      cases hc : chunkC n with
      | none => rw [hc] at h; cases h
      | some l =>
        rw [hc] at h
        dsimp only at h
        split at h
        · rename_i h0
          refine readG_ids m _ _ _ _ h fun x hx c hcx => ?_
          have hids := chunk_ids n l hc hb
          unfold noteA at hx
          split at hx
          · exact hk x hx c hcx
          split at hx
          · exact hk x hx c hcx
          dsimp only at hx
          have hx : x ∈ k.notes ++ [l] := by
            split at hx
            · exact List.mem_of_mem_tail hx
            · exact hx
          rcases List.mem_append.1 hx with hx | hx
          · exact hk x hx c hcx
          · rw [List.mem_singleton.1 hx] at hcx; exact hids c hcx
        · cases h
theorem readA_ids {u : List UInt8} {k : Bk} (h : readA u = some k) : ∀ l ∈ k.notes, ∀ c ∈ l, c.id < 9223372036854775808 := by
  unfold readA at h
  cases h1 : numR (some u) with
  | mk kept s1 =>
    rw [h1] at h; dsimp only at h
    cases h2 : numR s1 with
    | mk first s2 =>
      rw [h2] at h; dsimp only at h
      cases h3 : numR s2 with
      | mk many s3 =>
        rw [h3] at h; dsimp only at h
        split at h
        · cases h
        cases hr : readG many ⟨first, kept, []⟩ s3 with
        | none => rw [hr] at h; cases h
        | some p =>
          obtain ⟨k', s⟩ := p
          rw [hr] at h
          dsimp only at h
          split at h
          · injection h with h
            subst h
            exact readG_ids _ _ _ _ _ hr (fun l hl => nomatch hl)
          · cases h
theorem readA_small {u : List UInt8} {k : Bk} (h : readA u = some k) : ∀ l ∈ k.notes, l.length ≤ u.length := fun l hl => by
  rw [← read_bytes h]
  obtain ⟨a, b, e⟩ := List.append_of_mem hl
  unfold bytesA
  rw [e, List.flatMap_append, List.flatMap_cons]
  have h1 := flat_ge (flatC l)
  have h2 := flatC_lenN l
  have h3 : (numsE (flatC l)).length = (numE (flatC l).length).length + ((flatC l).flatMap numE).length := by unfold numsE; rw [List.length_append]
  simp only [List.length_append]
  omega
end Go.Cx
