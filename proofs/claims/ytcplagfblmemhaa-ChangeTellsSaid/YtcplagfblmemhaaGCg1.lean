/- Helper text of this claim: Cg1, Kit11, Cx1, Cx2, Jn: lemmas and contracts that the proved statement rests on; no conditions of its own. -/
import Derived.Test.YtcplagfblmemhaaGCd2
import Derived.Test.YtcplagfblmemhaaGOpn
import Derived.Test.YtcplagfblmemhaaGWc5
import Derived.Shelf.Strings.Builder2
-- alias Try
namespace Go.Proofs.Ytcplagfblmemhaa
set_option linter.unusedVariables false
open Go.RowKit Go.Pw Go.Vc Go.Cs Go.Lib Go.Cx
set_option linter.unusedVariables false
set_option maxRecDepth 100000
set_option maxHeartbeats 2000000 in
theorem cl_Chg {w : World} {v : Value} (l : List Chg) (hv : RowO w v chC l) (hl : l.length ≤ 1000000) : Calls Try.prog 40 #[v] w fun e w' => ∃ v', e = .returned v' ∧ OwnChg w' w.heap.size v' l ∧ Keeps w w' none_ := by
  obtain ⟨a, cap, rfl, hr⟩ := hv
  have hnil : l.length = 0 → l = [] := List.eq_nil_of_length_eq_zero
  rcases a with _ | ⟨gb, o, sp⟩
  · obtain rfl : l = [] := hnil (by
      rcases Nat.eq_zero_or_pos l.length with h | h
      · exact h
      · obtain ⟨g, o, h1, _⟩ := hr h; cases h1)
    refine calls_of_vc (args := [.slice none 0 cap]) Try.func40 rfl (Nat.le_of_ble_eq_true rfl) ?_; refine Sat.go hmix ?_; conv => whnf
    refine KGO ?_
    exact ⟨_, rfl, World.ownsRow_nil _ _ _ _, Keeps.refl _ _⟩
  · refine calls_of_vc (args := [.slice (some ⟨gb, o, sp⟩) l.length cap]) Try.func40 rfl (Nat.le_of_ble_eq_true rfl) ?_; refine Sat.go hmix ?_; conv => whnf
    refine KGO ?_
    refine RunV.of (build0Chg _) ?_
    have o1 : (w.alloc (.cells #[] 48)).ownsRow w.heap.size 48 3 (.slice (some ⟨w.heap.size, 0, none⟩) 0 0) 0 [] := World.ownsRow_made w #[] 0 (Nat.le_refl _) (by decide) (by simp)
    have k1 : Keeps w (w.alloc (.cells #[] 48)) none_ := (Keeps.refl _ _).alloc _
    have hB : w.heap.size ≤ (w.alloc (.cells #[] 48)).heap.size := k1.size
    generalize w.alloc (.cells #[] 48) = w1 at *
    refine KGO ?_
    have hnews : ∀ j u, (l.flatMap chC)[j]? = some u → w1.cell? ((⟨gb, o, sp⟩ : Addr).add j) = some u := fun j u hj => by
      rcases Nat.eq_zero_or_pos l.length with h | h
      · rw [hnil h] at hj; simp at hj
      · obtain ⟨g', o', h1, _, h3⟩ := hr h
        injection h1 with h1
        injection h1 with h4 h5 h6
        subst h4; subst h5; subst h6
        rw [add_none]
        exact cell_mono (h3 j u hj) k1
    refine RunN.app Try.underlying37 infoChg rfl (by decide) o1 hB ⟨gb, o, sp⟩ l.length cap (l.flatMap chC) (flatK_len chC 3 lenChg l) hnews (oneChg l) (by omega) (by omega) fun v' w' h2 h3 => ?_
    obtain ⟨a', c', rfl⟩ : ∃ a c, v' = .slice a (0 + l.length) c := own_shape h2
    refine KGO ?_
    refine ⟨_, rfl, ?_, k1.own o1 (Nat.le_refl _) h3⟩
    rw [List.nil_append, Nat.zero_add] at h2
    rw [Nat.zero_add]
    exact h2
set_option maxHeartbeats 2000000 in
theorem cl_Cl {w : World} {v : Value} (l : List Sl) (hv : RowO w v shC l) (hl : l.length ≤ 1000000) : Calls Try.prog 41 #[v] w fun e w' => ∃ v', e = .returned v' ∧ OwnCl w' w.heap.size v' l ∧ Keeps w w' none_ := by
  obtain ⟨a, cap, rfl, hr⟩ := hv
  have hnil : l.length = 0 → l = [] := List.eq_nil_of_length_eq_zero
  rcases a with _ | ⟨gb, o, sp⟩
  · obtain rfl : l = [] := hnil (by
      rcases Nat.eq_zero_or_pos l.length with h | h
      · exact h
      · obtain ⟨g, o, h1, _⟩ := hr h; cases h1)
    refine calls_of_vc (args := [.slice none 0 cap]) Try.func41 rfl (Nat.le_of_ble_eq_true rfl) ?_; refine Sat.go hmix ?_; conv => whnf
    refine KGO ?_
    exact ⟨_, rfl, World.ownsRow_nil _ _ _ _, Keeps.refl _ _⟩
  · refine calls_of_vc (args := [.slice (some ⟨gb, o, sp⟩) l.length cap]) Try.func41 rfl (Nat.le_of_ble_eq_true rfl) ?_; refine Sat.go hmix ?_; conv => whnf
    refine KGO ?_
    refine RunV.of (build0Cl _) ?_
    have o1 : (w.alloc (.cells #[] 37)).ownsRow w.heap.size 37 1 (.slice (some ⟨w.heap.size, 0, none⟩) 0 0) 0 [] := World.ownsRow_made w #[] 0 (Nat.le_refl _) (by decide) (by simp)
    have k1 : Keeps w (w.alloc (.cells #[] 37)) none_ := (Keeps.refl _ _).alloc _
    have hB : w.heap.size ≤ (w.alloc (.cells #[] 37)).heap.size := k1.size
    generalize w.alloc (.cells #[] 37) = w1 at *
    refine KGO ?_
    have hnews : ∀ j u, (l.flatMap shC)[j]? = some u → w1.cell? ((⟨gb, o, sp⟩ : Addr).add j) = some u := fun j u hj => by
      rcases Nat.eq_zero_or_pos l.length with h | h
      · rw [hnil h] at hj; simp at hj
      · obtain ⟨g', o', h1, _, h3⟩ := hr h
        injection h1 with h1
        injection h1 with h4 h5 h6
        subst h4; subst h5; subst h6
        rw [add_none]
        exact cell_mono (h3 j u hj) k1
    refine RunN.app Try.underlying22 infoCl rfl (by decide) o1 hB ⟨gb, o, sp⟩ l.length cap (l.flatMap shC) (flatK_len shC 1 lenCl l) hnews (oneCl l) (by omega) (by omega) fun v' w' h2 h3 => ?_
    obtain ⟨a', c', rfl⟩ : ∃ a c, v' = .slice a (0 + l.length) c := own_shape h2
    refine KGO ?_
    refine ⟨_, rfl, ?_, k1.own o1 (Nat.le_refl _) h3⟩
    rw [List.nil_append, Nat.zero_add] at h2
    rw [Nat.zero_add]
    exact h2
set_option maxHeartbeats 1000000 in
theorem ixf_Chg0 {w : World} {v : Value} (l : List Chg) (g : Nat) (p : Chg → Bool) (hv : RowO w v chC l) (hl : l.length ≤ 1000000) (hg : ∀ (args : Array Value) (w : World), (callFunc g args).run Try.prog w = .ok (.enter g args) w)
    (hp : ∀ x ∈ l, ∀ w', Keeps w w' none_ → Calls Try.prog g #[.agg (chC x).toArray] w' fun e w'' => e = .returned (.bool (p x)) ∧ Keeps w' w'' none_) :
    Calls Try.prog 55 #[v, .func (.func g) #[] #[]] w fun e w' => e = .returned (.int .i64 (idxP p l)) ∧ Keeps w w' none_ := by
  obtain ⟨a, cap, rfl, hr⟩ := hv
  refine calls_of_vc (args := [.slice a l.length cap, .func (.func g) #[] #[]]) Try.func55 rfl (Nat.le_of_ble_eq_true rfl) ?_; refine Sat.go hmix ?_; conv => whnf
  refine Loop.intro (ι := Nat) (fun i => [(0, .slice a l.length cap), (1, .func (.func g) #[] #[]), (7, .int .i64 (l.length : Nat)), (8, .int .i64 (i : Nat))])
    (fun i wr => Keeps w wr none_ ∧ i ≤ l.length ∧ ∀ j (h : j < l.length), j < i → p l[j] = false) (fun i => l.length - i) 0 ⟨rfl, rfl, rfl, rfl, trivial⟩ ⟨Keeps.refl _ _, Nat.zero_le _, fun _ _ h => by omega⟩ ?_
  rintro i gg wr ⟨hK, hi, he⟩
  (first | refine Then.go hmix ?_ | refine Sat.go hmix ?_ | refine ResK.go ?_ | skip); conv => whnf
  by_cases hlt : i < l.length
  · obtain ⟨gb, o, rfl, hgb, hat⟩ := hr (by omega)
    have hpc := hp l[i] (List.getElem_mem hlt) wr hK
    obtain ⟨q, hq⟩ : ∃ q, p l[i] = q := ⟨_, rfl⟩
    rw [hq] at hpc

    refine KGO ?_
    refine CallS.of (hg _ _) hpc ?_
    rintro e w1 ⟨rfl, k1⟩
    refine ⟨_, rfl, ?_⟩; (first | refine Then.go hmix ?_ | refine Sat.go hmix ?_ | refine ResK.go ?_ | skip); conv => whnf
    cases q with
    | true =>
      refine KGO ?_
      exact ⟨by rw [idxP_some hlt hq he], hK.trans0 k1⟩
    | false =>
      refine KGO ?_
      exact ⟨i + 1, ⟨rfl, rfl, rfl, v_int (by simp), trivial⟩, ⟨hK.trans0 k1, by omega, fun j h hj => by
        rcases Nat.lt_or_ge j i with h' | h'
        · exact he j h h'
        · obtain rfl : j = i := by omega
          exact hq⟩, by dsimp only; omega⟩
  · refine KGO ?_
    exact ⟨by rw [idxP_none fun j h => he j h (by omega)], hK⟩
theorem cnf_Chg0 {w : World} {v : Value} (l : List Chg) (g : Nat) (p : Chg → Bool) (hv : RowO w v chC l) (hl : l.length ≤ 1000000) (hg : ∀ (args : Array Value) (w : World), (callFunc g args).run Try.prog w = .ok (.enter g args) w)
    (hp : ∀ x ∈ l, ∀ w', Keeps w w' none_ → Calls Try.prog g #[.agg (chC x).toArray] w' fun e w'' => e = .returned (.bool (p x)) ∧ Keeps w' w'' none_) :
    Calls Try.prog 37 #[v, .func (.func g) #[] #[]] w fun e w' => e = .returned (.bool (l.any p)) ∧ Keeps w w' none_ := by
  have hv0 := hv
  obtain ⟨a, cap, rfl, hr⟩ := hv
  refine calls_of_vc (args := [.slice a l.length cap, .func (.func g) #[] #[]]) Try.func37 rfl (Nat.le_of_ble_eq_true rfl) ?_; refine Sat.go hmix ?_; conv => whnf
  refine CallS.of (Try.call55 _ _) (ixf_Chg0 l g p hv0 hl hg hp) ?_
  rintro e w1 ⟨rfl, k1⟩
  refine ⟨_, rfl, ?_⟩; (first | refine Then.go hmix ?_ | refine Sat.go hmix ?_ | refine ResK.go ?_ | skip); conv => whnf
  refine ⟨ret_bool ?_, k1⟩
  rw [Bool.eq_iff_iff, decide_eq_true_eq]
  exact idxP_any p l
end Go.Proofs.Ytcplagfblmemhaa

namespace Go.Pw
set_option linter.unusedVariables false
open Go
set_option linter.unusedVariables false
set_option linter.unusedSectionVars false
/-! A region that draws, with held loads, of which one maker (a: it stands behind nothing) floats between calls that stand in a row; the last operation (z) stands behind all. -/
section
end
end Go.Pw
namespace Go.Vc
set_option linter.unusedVariables false
open Go Go.Pw
/-- What a region must come to, to be forgotten but for some slots. -/
def outK {ι : Type} (dl : DL) (slots : ι → List (Nat × Value)) (I : ι → World → Prop) : Exit → Fr → World → Prop
  | .normal, g, w => dsK dl g (Ret (∃ j, Agree g (slots j) ∧ I j w))
  | _, _, _ => False
theorem Draw.cut {P : Program} {n : Nat} {K : Exit → Fr → World → Prop} {id : Nat} {ops : Array Oper} {t : List It} {fg : Nat → Value} {dl : DL} {w : World} {ι : Type} (slots : ι → List (Nat × Value)) (I : ι → World → Prop)
    (h : Draw P n (outK dl slots I) id ops [] ⟨fg, dl⟩ w) (k : ∀ i g w, I i w → Sat P n K .normal t (setL (slots i) ⟨g, dl⟩) w) : Draw P n K id ops t ⟨fg, dl⟩ w :=
  ⟨fun hm hf => wpX_mono (h.h hm hf) fun e a' w' he => by
    obtain ⟨g', hg', rfl, hk⟩ := he
    have hk : outK dl slots I e g' w' := hk
    cases e with
    | normal =>
      obtain ⟨hd, hk⟩ := dsK_ds hk
      obtain ⟨j, h1, h2⟩ := Ret.h hk
      have := (k j g'.g w' h2).h
      rw [fr_eta hd, setL_of h1] at this
      exact ⟨g', hg', rfl, this hg'⟩
    | _ => exact hk.elim⟩
end Go.Vc

-- alias Try
namespace Go.Proofs.Ytcplagfblmemhaa
set_option linter.unusedVariables false
open Go.Shelf Go.RowKit Go.Pw Go.Vc Go.Cs Go.Lib Go.Cd Go.Cx
set_option linter.unusedVariables false
set_option maxRecDepth 100000
/-- The code's book in memory: its variable b, the row v of the notes' headers hs, the notes. -/
structure BkAt (w : World) (B b : Nat) (v : Sl) (hs : List Sl) (k : Bk) : Prop where
  var : VarK w b 50 [.int .i64 k.state, .int .i64 k.kept, v.v]
  own : w.ownsRow B 37 1 v.v hs.length (hs.flatMap shC)
  hl : hs.length = k.notes.length
  row : ∀ i (h : i < hs.length), w.ownsRow B 48 3 hs[i].v (k.notes[i]'(by omega)).length ((k.notes[i]'(by omega)).flatMap chC)
  good : GoodB k
/-- Another kind of block. -/
def Foreign (w : World) (q : Nat) : Prop := ∀ cs T f, w.heap[q]? = some (.cells cs T f) → T ≠ 50 ∧ T ≠ 37 ∧ T ≠ 48
theorem _root_.Go.Vc.VarK.foreign {w : World} {r : Nat} {T : TypeId} {cs : List Value} (h : VarK w r T cs) (h1 : T ≠ 50) (h2 : T ≠ 37) (h3 : T ≠ 48) : Foreign w r := fun cs' T' f' e => by
  have h' : w.heap[r]? = some (.cells cs.toArray T) := h
  rw [h'] at e
  injection e with e; injection e with e1 e2 e3
  subst e2; exact ⟨h1, h2, h3⟩
theorem own_not {w : World} {B s n q : Nat} {e : TypeId} {v : Value} {xs : List Value} (h : w.ownsRow B e s v n xs) (hf : ∀ cs T f, w.heap[q]? = some (.cells cs T f) → T ≠ e) : v.ownBlock ≠ some q := fun hq => by
  rcases h.2 with ⟨rfl, _⟩ | ⟨g, cap, cur, rfl, hB, hg, _⟩
  · cases hq
  · have e1 : g = q := by simpa [Value.ownBlock] using hq
    subst e1
    exact hf _ _ _ hg rfl
theorem BkAt.keep {w w' : World} {B b : Nat} {v : Sl} {hs : List Sl} {k : Bk} {c : Nat → Prop} (h : BkAt w B b v hs k) (kk : Keeps w w' c) (hc : ∀ q, c q → Foreign w q) : BkAt w' B b v hs k := by
  refine ⟨h.var.keep kk fun e => ?_, own_keep h.own kk fun q hq e => ?_, h.hl, fun i hi => own_keep (h.row i hi) kk fun q hq e => ?_, h.good⟩
  · have h' : w.heap[b]? = some (.cells (List.toArray [.int .i64 k.state, .int .i64 k.kept, v.v]) 50) := h.var
    exact (hc _ e _ _ _ h').1 rfl
  · exact own_not h.own (fun cs T f ht => (hc _ e cs T f ht).2.1) hq
  · exact own_not (h.row i hi) (fun cs T f ht => (hc _ e cs T f ht).2.2) hq
theorem BkAt.keep0 {w w' : World} {B b : Nat} {v : Sl} {hs : List Sl} {k : Bk} (h : BkAt w B b v hs k) (kk : Keeps w w' none_) : BkAt w' B b v hs k := h.keep kk fun _ e => e.elim
theorem own_nS {w : World} {B s n : Nat} {e : TypeId} {v : Sl} {xs : List Value} (h : w.ownsRow B e s v.v n xs) : v.n = n := by
  obtain ⟨a, c, e⟩ := own_shape h
  obtain ⟨va, vn, vc⟩ := v
  injection e
section
variable {w : World}
theorem cx_three (n : Int) : Calls Try.prog 56 #[.int .i64 n] w fun e w' => e = .returned (.bool (three n)) ∧ Keeps w w' none_ := by
  refine calls_of_vc (args := [.int .i64 n]) Try.func56 rfl (Nat.le_of_ble_eq_true rfl) ?_; refine Sat.go hmix ?_; conv => whnf
  unfold three
  by_cases h1 : 1 ≤ n
  · by_cases h2 : n ≤ 3
    · refine KGO ?_
      exact ⟨ret_bool (by simp [h1, h2]), Keeps.refl _ _⟩
    · refine KGO ?_
      exact ⟨ret_bool (by simp [h2]), Keeps.refl _ _⟩
  · refine KGO ?_
    exact ⟨ret_bool (by simp [h1]), Keeps.refl _ _⟩
set_option maxHeartbeats 1000000 in
theorem cx_fine (c : Chg) : Calls Try.prog 39 #[.agg (chC c).toArray] w fun e w' => e = .returned (.bool (fineA c)) ∧ Keeps w w' none_ := by
  refine calls_of_vc (args := [.agg (chC c).toArray]) Try.func39 rfl (Nat.le_of_ble_eq_true rfl) ?_; refine Sat.go hmix ?_; conv => whnf
  have a_b1 := at_fresh w 48 (chC c)
  have v_b1 := VarK.new w 48 (chC c)
  have k_w1 : Keeps w (w.alloc (.cells (List.toArray (chC c)) 48)) none_ := (Keeps.refl _ _).alloc _
  have z_w1 : (w.alloc (.cells (List.toArray (chC c)) 48)).heap.size = w.heap.size + 1 := by simp
  generalize w.alloc (.cells (List.toArray (chC c)) 48) = w1 at *
  generalize hs_b1 : w.heap.size = b1 at *
  have r_w1 : Keeps w1 w1 none_ := Keeps.refl _ _
  refine KGO ?_
  refine CallS.of (Try.call56 _ _) (cx_three c.of) ?_
  rintro e w2 ⟨rfl, k2⟩
  refine ⟨_, rfl, ?_⟩; (first | refine Then.go hmix ?_ | refine Sat.go hmix ?_ | refine ResK.go ?_ | skip); conv => whnf
  have a2 := at_mono a_b1 k2
  have q2 := Keeps.refl w2 none_
  unfold fineA
  cases h1 : three c.of with
  | false =>
    refine KGO ?_
    exact ⟨ret_bool (by simp), k_w1.trans0 k2⟩
  | true =>
    refine KGO ?_
    refine CallS.of (Try.call56 _ _) (cx_three c.what) ?_
    rintro e w3 ⟨rfl, k3⟩
    refine ⟨_, rfl, ?_⟩; (first | refine Then.go hmix ?_ | refine Sat.go hmix ?_ | refine ResK.go ?_ | skip); conv => whnf
    have a3 := at_mono a2 k3
    have q3 := Keeps.refl w3 none_
    cases h2 : three c.what with
    | false =>
      refine KGO ?_
      exact ⟨ret_bool (by simp), (k_w1.trans0 k2).trans0 k3⟩
    | true =>
      refine KGO ?_
      exact ⟨ret_bool (by simp), (k_w1.trans0 k2).trans0 k3⟩
theorem cx_notFine (c : Chg) : Calls Try.prog 38 #[.agg (chC c).toArray] w fun e w' => e = .returned (.bool (!fineA c)) ∧ Keeps w w' none_ := by
  refine calls_of_vc (args := [.agg (chC c).toArray]) Try.func38 rfl (Nat.le_of_ble_eq_true rfl) ?_; refine Sat.go hmix ?_; conv => whnf
  have a_b1 := at_fresh w 48 (chC c)
  have v_b1 := VarK.new w 48 (chC c)
  have k_w1 : Keeps w (w.alloc (.cells (List.toArray (chC c)) 48)) none_ := (Keeps.refl _ _).alloc _
  have z_w1 : (w.alloc (.cells (List.toArray (chC c)) 48)).heap.size = w.heap.size + 1 := by simp
  generalize w.alloc (.cells (List.toArray (chC c)) 48) = w1 at *
  generalize hs_b1 : w.heap.size = b1 at *
  have r_w1 : Keeps w1 w1 none_ := Keeps.refl _ _
  refine KGO ?_
  refine CallS.of (Try.call39 _ _) (cx_fine c) ?_
  rintro e w2 ⟨rfl, k2⟩
  refine ⟨_, rfl, ?_⟩; (first | refine Then.go hmix ?_ | refine Sat.go hmix ?_ | refine ResK.go ?_ | skip); conv => whnf
  exact ⟨rfl, k_w1.trans0 k2⟩
theorem build_bk (s k : Int) (w : World) : (Instr.build 50 [(0, .int .i64 s), (1, .int .i64 k)].toArray).run Try.prog w = .ok (.agg #[.int .i64 s, .int .i64 k, .slice none 0 0]) w := by
  simp [Instr.build, Instr.fill, go_sem, Try.runUnderlying50]
theorem cx_New (s k : Int) (hs : s ≤ 9223372036854775807) : Calls Try.prog 6 #[.int .i64 s, .int .i64 k] w fun e w' =>
    ((s < 0 ∨ k < 1 ∨ 256 < k) ∧ e = .returned (.pointer none) ∧ Keeps w w' none_) ∨
    (¬ (s < 0 ∨ k < 1 ∨ 256 < k) ∧ e = .returned (.pointer (some ⟨w.heap.size, 0, none⟩)) ∧ BkAt w' w.heap.size w.heap.size ⟨none, 0, 0⟩ [] ⟨s, k, []⟩ ∧ Keeps w w' none_) := by
  refine calls_of_vc (args := [.int .i64 s, .int .i64 k]) Try.func6 rfl (Nat.le_of_ble_eq_true rfl) ?_; refine Sat.go hmix ?_; conv => whnf
  by_cases h1 : s < 0
  · refine KGO ?_
    exact ⟨.inl ⟨.inl h1, rfl, Keeps.refl _ _⟩⟩
  by_cases h2 : k < 1
  · refine KGO ?_
    exact ⟨.inl ⟨.inr (.inl h2), rfl, Keeps.refl _ _⟩⟩
  by_cases h3 : 256 < k
  · refine KGO ?_
    exact ⟨.inl ⟨.inr (.inr h3), rfl, Keeps.refl _ _⟩⟩
  refine KGO ?_
  refine RunV.of (build_bk s k w) ?_
  (first | refine Then.go hmix ?_ | refine Sat.go hmix ?_ | refine ResK.go ?_ | skip); conv => whnf
  refine ⟨.inr ⟨by omega, rfl, ⟨VarK.new w 50 [.int .i64 s, .int .i64 k, .slice none 0 0], World.ownsRow_nil _ _ _ _, rfl, fun i hi => absurd hi (Nat.not_lt_zero i), good_new (by omega) hs (by omega) (by omega)⟩, (Keeps.refl _ _).alloc _⟩⟩
theorem cx_State {B b : Nat} {v : Sl} {hs : List Sl} {k : Bk} (h : BkAt w B b v hs k) : Calls Try.prog 13 #[.pointer (some ⟨b, 0, none⟩)] w fun e w' => e = .returned (.int .i64 k.state) ∧ Keeps w w' none_ := by
  have ha := h.var.at
  refine calls_of_vc (args := [.pointer (some ⟨b, 0, none⟩)]) Try.func13 rfl (Nat.le_of_ble_eq_true rfl) ?_; refine Sat.go hmix ?_; conv => whnf
  have q := Keeps.refl w none_
  refine KGO ?_
  exact ⟨rfl, q⟩
theorem cx_First {B b : Nat} {v : Sl} {hs : List Sl} {k : Bk} (h : BkAt w B b v hs k) : Calls Try.prog 20 #[.pointer (some ⟨b, 0, none⟩)] w fun e w' => e = .returned (.int .i64 (firstA k)) ∧ Keeps w w' none_ := by
  have hn := own_nS h.own
  have g := h.good
  have := g.ns; have := g.s0; have := g.s1
  obtain ⟨a, n, c⟩ := v
  obtain rfl : n = hs.length := hn
  have hl := h.hl
  have ha : At w b 0 [.int .i64 k.state, .int .i64 k.kept, .slice a hs.length c] := h.var.at
  refine calls_of_vc (args := [.pointer (some ⟨b, 0, none⟩)]) Try.func20 rfl (Nat.le_of_ble_eq_true rfl) ?_; refine Sat.go hmix ?_; conv => whnf
  have q := Keeps.refl w none_
  refine KGO ?_
  refine ⟨ret_int ?_, q.drew⟩
  unfold firstA; omega
end
end Go.Proofs.Ytcplagfblmemhaa

-- alias Try
namespace Go.Proofs.Ytcplagfblmemhaa
set_option linter.unusedVariables false
open Go.Shelf Go.RowKit Go.Pw Go.Vc Go.Cs Go.Lib Go.Cd Go.Cx
set_option linter.unusedVariables false
set_option maxRecDepth 100000
theorem bs1Cl (s : Sl) (w : World) : (Instr.buildSlice 22 1 [(0, .slice s.a s.n s.c)].toArray).run Try.prog w = .ok (.slice (some ⟨w.heap.size, 0, none⟩) 1 1) (w.alloc (.cells (List.toArray (shC s)) 37)) := by
  simp [Instr.buildSlice, go_sem, Try.runUnderlying22]
theorem own_foreignV {w : World} {B s n b : Nat} {e T : TypeId} {v : Value} {xs cs : List Value} (h : w.ownsRow B e s v n xs) (hv : VarK w b T cs) (hne : e ≠ T) : v.ownBlock ≠ some b := own_not h fun cs' T' f' ht => by
  have h' : w.heap[b]? = some (.cells cs.toArray T) := hv
  rw [h'] at ht; injection ht with ht; injection ht with h1 h2 h3; subst h2; exact fun e => hne e.symm
theorem own_own_ne {w : World} {B B' s s' n n' q : Nat} {e e' : TypeId} {v v' : Value} {xs xs' : List Value} (h : w.ownsRow B e s v n xs) (h' : w.ownsRow B' e' s' v' n' xs') (hne : e ≠ e') (hq : v.ownBlock = some q) (hq' : v'.ownBlock = some q) : False := by
  rcases own_blockK h with ⟨rfl, _⟩ | ⟨g, cap, cells, rfl, hB, hv, _⟩
  · cases hq
  · have e1 : g = q := by simpa [Value.ownBlock] using hq
    subst e1
    exact own_foreignV h' hv (fun e => hne e.symm) hq'
/-- A book's rows, behind an operation that turns the book's variable and the headers' row. -/
theorem bk_rows {w w' : World} {B b : Nat} {v : Sl} {hs : List Sl} {k : Bk} (h : BkAt w B b v hs k) (kk : Keeps w w' (fun q => q = b ∨ v.v.ownBlock = some q)) :
    ∀ i (h1 : i < hs.length), w'.ownsRow B 48 3 hs[i].v (k.notes[i]'(by have := h.hl; omega)).length ((k.notes[i]'(by have := h.hl; omega)).flatMap chC) := fun i h1 =>
  own_keep (h.row i h1) kk fun q hq e => by
    rcases e with rfl | e
    · exact own_foreignV (h.row i h1) h.var (by decide) hq
    · exact own_own_ne (h.row i h1) h.own (by decide) hq e
section
variable {w : World}
set_option maxHeartbeats 4000000 in
theorem cx_Note {B b : Nat} {v : Sl} {hs : List Sl} {k : Bk} (h : BkAt w B b v hs k) (hB : B ≤ w.heap.size) (st : Int) (hst : st ≤ 9223372036854775807) (hst0 : -9223372036854775808 ≤ st) (l : List Chg) {vl : Sl} (hv : RowC w vl.v l) (hll : l.length ≤ 1000000) :
    Calls Try.prog 14 #[.pointer (some ⟨b, 0, none⟩), .int .i64 st, vl.v] w fun e w' => e = .returned (.int .i64 (noteA k st l).1) ∧ (∃ v' hs', BkAt w' B b v' hs' (noteA k st l).2) ∧ Keeps w w' (fun q => q = b ∨ v.v.ownBlock = some q) := by
  have hv0 := hv
  have hgood := noteA_good (l := l) h.good hst
  have hn := own_nS h.own
  have g := h.good
  have g1 := g.ns; have g2 := g.s0; have g3 := g.s1; have g4 := g.nk; have g5 := g.k1; have g6 := g.k0
  obtain ⟨a, n, c⟩ := v
  obtain rfl : n = hs.length := hn
  have hl := h.hl
  have ha : At w b 0 [.int .i64 k.state, .int .i64 k.kept, .slice a hs.length c] := h.var.at
  obtain ⟨la, lcap, hle, hlr⟩ := hv
  obtain ⟨la', ln, lc⟩ := vl
  injection hle with e1 e2 e3
  subst e1; subst e2; subst e3
  have q := Keeps.refl w none_
  have kb : Keeps w w (fun q => q = b ∨ Value.ownBlock (.slice a hs.length c) = some q) := Keeps.refl _ _
  refine calls_of_vc (args := [.pointer (some ⟨b, 0, none⟩), .int .i64 st, .slice la' l.length lc]) Try.func14 rfl (Nat.le_of_ble_eq_true rfl) ?_; refine Sat.go hmix ?_; conv => whnf
  unfold noteA at hgood ⊢
  by_cases h1 : k.state = 9223372036854775807
  · rw [if_pos (.inl h1)]
    refine KGO ?_
    exact ⟨rfl, ⟨_, _, h⟩, kb⟩
  by_cases h2 : st = k.state + 1
  rotate_left
  · rw [if_pos (.inr h2)]
    refine KGO ?_
    exact ⟨rfl, ⟨_, _, h⟩, kb⟩
  rw [if_neg (fun e => e.elim h1 (fun e => e h2))] at hgood ⊢
  by_cases h3 : 65536 < l.length
  · rw [if_pos (.inl h3)]
    refine KGO ?_
    exact ⟨rfl, ⟨_, _, h⟩, kb⟩
  refine KGO ?_
  refine CallS.of (Try.call37 _ _) (cnf_Chg0 l 38 (fun c => !fineA c) hv0 hll (fun _ _ => rfl) (fun x _ w' _ => cx_notFine x)) ?_
  rintro e w1 ⟨rfl, k1⟩
  refine ⟨_, rfl, ?_⟩; (first | refine Then.go hmix ?_ | refine Sat.go hmix ?_ | refine ResK.go ?_ | skip); conv => whnf
  have hx1 := h.keep0 k1
  cases h4 : l.any fun c => !fineA c with
  | true =>
    rw [if_pos (.inr rfl)]
    refine KGO ?_
    exact ⟨rfl, ⟨_, _, hx1⟩, k1.of_none⟩
  | false =>
    rw [h4] at hgood
    rw [if_neg (fun e => e.elim h3 (fun e => by cases e))] at hgood ⊢
    refine KGO ?_
    have hv1 := hv0.keep k1
    have ob1 : Value.ownBlock (.slice a hs.length c) ≠ some b := own_foreignV hx1.own hx1.var (by decide)
    have hS : ∀ u, (Keeps w1 u (fun q => own_ (.slice a hs.length c) q ∨ q = b) ∧ u.cell? ⟨b, 2, none⟩ = some (.slice a hs.length c)) → u.cell? ⟨b, 2, none⟩ = some (.slice a hs.length c) := fun u hu => hu.2
    have c1 : w1.cell? ⟨b, 2, none⟩ = some (.slice a hs.length c) := hx1.var.at 2 _ rfl
    have hbl := hx1.var.lt
    refine Draw.heldEnd (fun u => Keeps w1 u (fun q => own_ (.slice a hs.length c) q ∨ q = b) ∧ u.cell? ⟨b, 2, none⟩ = some (.slice a hs.length c)) (fun _ => true) (by simp) (by decide +kernel) (by decide +kernel) ⟨(Keeps.refl _ _).drew, c1⟩ ?_
    refine KGO ?_
    refine Held.one (by rfl) (fun u hu => hu.2) ?_
    refine KGO ?_
    have kd := (Keeps.refl w1 none_).drew
    have hv2 := hv1.keep kd
    refine CallS.of (Try.call40 _ _) (cl_Chg l hv2 hll) ?_
    rintro e w2 ⟨v2, rfl, o2, k2⟩
    obtain ⟨a2, c2, rfl⟩ := own_shape o2
    refine ⟨_, rfl, ?_⟩; (first | refine Then.go hmix ?_ | refine Sat.go hmix ?_ | refine ResK.go ?_ | skip); conv => whnf
    have K2 : Keeps w1 w2 none_ := kd.trans0 k2
    refine ⟨⟨K2.of_none, (cell_mono c1 K2)⟩, ?_⟩
    (first | refine Then.go hmix ?_ | refine Sat.go hmix ?_ | refine ResK.go ?_ | skip); conv => whnf
    have hx2 := hx1.keep0 K2
    refine RunV.of (bs1Cl ⟨a2, l.length, c2⟩ _) ?_
    have k3 : Keeps w2 (w2.alloc (.cells (List.toArray (shC ⟨a2, l.length, c2⟩)) 37)) none_ := (Keeps.refl _ _).alloc _
    have h3' := at_fresh w2 37 (shC ⟨a2, l.length, c2⟩)
    have o3 := own_keep0 o2 k3
    generalize w2.alloc (.cells (List.toArray (shC ⟨a2, l.length, c2⟩)) 37) = w3 at *
    generalize w2.heap.size = g3' at *
    have K3 := K2.trans0 k3
    have hx3 := hx2.keep0 k3
    refine ⟨⟨K3.of_none, cell_mono c1 K3⟩, ?_⟩
    (first | refine Then.go hmix ?_ | refine Sat.go hmix ?_ | refine ResK.go ?_ | skip); conv => whnf
    have hsz : hs.length ≤ 256 := by omega
    have hB3 : B ≤ w3.heap.size := Nat.le_trans hB (Nat.le_trans k1.size K3.size)
    refine tyCl.app1 (⟨a2, l.length, c2⟩ : Sl) hx3.own hB3 h3' (by omega) (by omega) fun v4 w4 o4 k4 => ?_
    have e4 : (hs ++ [(⟨a2, l.length, c2⟩ : Sl)]).length = hs.length + 1 := by simp
    unfold OwnR at o4
    rw [e4] at o4
    obtain ⟨a4, c4, rfl⟩ := own_shape o4
    have v4 := hx3.var.keep k4 (fun e => ob1 e)
    refine ⟨⟨(K3.of_none).trans' (k4.mono fun q _ e => .inl e), v4.at 2 _ rfl⟩, ?_⟩
    (first | refine Then.go hmix ?_ | refine Sat.go hmix ?_ | refine ResK.go ?_ | skip); conv => whnf
    refine Store.cellK (i := 0) v4 (by simp) (by rfl) ⟨rfl, by simp, by simp⟩ fun w5 v5 k5 => ?_
    refine ⟨⟨((K3.of_none).trans' (k4.mono fun q _ e => .inl e)).trans' (k5.mono fun q _ e => .inr e), v5.at 2 _ rfl⟩, ?_⟩
    (first | refine Then.go hmix ?_ | refine Sat.go hmix ?_ | refine ResK.go ?_ | skip); conv => whnf
    refine Store.cellK (i := 2) v5 (by simp) (by rfl) ⟨rfl, by simp, by simp⟩ fun w6 v6 k6 => ?_
    (first | refine Then.go hmix ?_ | refine Sat.go hmix ?_ | refine ResK.go ?_ | skip); conv => whnf
    have k56 := k5.trans' k6
    have K36 : Keeps w3 w6 (fun q => q = b ∨ Value.ownBlock (.slice a hs.length c) = some q) := (k4.mono fun q _ e => .inr e).trans' (k56.mono fun q _ e => .inl e)
    have ob4 : Value.ownBlock (.slice a4 (hs.length + 1) c4) ≠ some b := own_foreignV o4 v4 (by decide)
    have o6 := own_keep o4 k56 (fun q hq e => ob4 (by have e : q = b := e; rw [← e]; exact hq))
    have r6 := bk_rows hx3 K36
    have l6 := own_keep (own_base (B' := B) o3 (Nat.le_trans hB (Nat.le_trans k1.size (kd.size)))) K36 (fun q hq e => by
      rcases e with rfl | e
      · exact own_foreignV o3 hx3.var (by decide) hq
      · exact own_own_ne o3 hx3.own (by decide) hq e)
    have hK6 : Keeps w w6 (fun q => q = b ∨ Value.ownBlock (.slice a hs.length c) = some q) := ((k1.trans0 K3).of_none).trans' K36
    have bk6 : GoodB ⟨st, k.kept, k.notes ++ [l]⟩ → BkAt w6 B b ⟨a4, hs.length + 1, c4⟩ (hs ++ [⟨a2, l.length, c2⟩]) ⟨st, k.kept, k.notes ++ [l]⟩ := fun gd => by
      refine ⟨v6, ?_, by simp [hl], ?_, gd⟩
      · rw [e4]; exact o6
      · intro i hi
        rw [List.length_append, List.length_singleton] at hi
        by_cases hlt : i < hs.length
        · simp only [List.getElem_append_left hlt, List.getElem_append_left (show i < k.notes.length by omega)]
          exact r6 i hlt
        · have hii : i = hs.length := by omega
          subst hii
          simp only [List.getElem_append_right (Nat.le_refl _), List.getElem_append_right (show k.notes.length ≤ hs.length by omega), Nat.sub_self, show hs.length - k.notes.length = 0 by omega, List.getElem_singleton]
          exact l6
    have a6 : At w6 b 0 [.int .i64 st, .int .i64 k.kept, .slice a4 (hs.length + 1) c4] := v6.at
    have q6 := Keeps.refl w6 none_
    by_cases hk : k.kept < (k.notes.length + 1 : Nat)
    rotate_left
    · rw [if_neg hk] at hgood ⊢
      refine KGO ?_
      exact ⟨rfl, ⟨_, _, (bk6 hgood).keep0 q6.drew⟩, hK6.trans0 q6.drew⟩
    rw [if_pos hk] at hgood ⊢
    rcases own_blockK o6 with ⟨_, h0⟩ | ⟨gb, cap, cells, hve, hgB, hgv, hnc, hcm, hcl, htk⟩
    · omega
    injection hve with e1 e2 e3
    subst e1; subst e3
    refine KGO ?_
    refine Cut.fromI (l := 1) (by omega) (by omega) (by omega) ?_
    (first | refine Then.go hmix ?_ | refine Sat.go hmix ?_ | refine ResK.go ?_ | skip); conv => whnf
    rw [if_neg (show ¬ Int.toNat 1 = c4 by have : Int.toNat 1 = 1 := rfl; omega)]
    refine KGO ?_
    obtain ⟨H, hH⟩ : ∃ H, hs ++ [(⟨a2, l.length, c2⟩ : Sl)] = H := ⟨_, rfl⟩
    obtain ⟨M, hM⟩ : ∃ M, k.notes ++ [l] = M := ⟨_, rfl⟩
    have hHl : H.length = hs.length + 1 := by rw [← hH]; exact e4
    have hMl : M.length = hs.length + 1 := by rw [← hM]; simp [hl]
    have hrow : RowO w6.drew (.slice (some ⟨gb, 1, none⟩) hs.length (c4 - 1)) shC H.tail := by
      refine ⟨_, _, by rw [List.length_tail, hHl]; rfl, fun _ => ⟨gb, 1, rfl, hgv.lt, ?_⟩⟩
      have h0 : At w6 gb 0 (H.flatMap shC) := by
        have := (own_at o6 (by omega))
        obtain ⟨g', e1, e2, e3, e4⟩ := this
        injection e1 with e1; injection e1 with e1
        subst e1
        rw [hH] at e4; exact e4
      have h1 := at_dropR (s := 1) lenCl h0 1
      rw [List.drop_one] at h1
      exact at_mono h1 (Keeps.refl _ _).drew
    refine CallS.of (Try.call41 _ _) (cl_Cl H.tail hrow (by rw [List.length_tail]; omega)) ?_
    rintro e w7 ⟨v7, rfl, o7, k7⟩
    obtain ⟨a7, c7, rfl⟩ := own_shape o7
    refine ⟨_, rfl, ?_⟩; (first | refine Then.go hmix ?_ | refine Sat.go hmix ?_ | refine ResK.go ?_ | skip); conv => whnf
    have K67 : Keeps w6 w7 none_ := q6.drew.trans0 k7
    have v7 := v6.keep0 K67
    refine Store.cellK (i := 2) v7 (by simp) (by rfl) ⟨rfl, by simp, by simp⟩ fun w8 v8 k8 => ?_
    refine KGO ?_
    have ob7 : Value.ownBlock (.slice a7 H.tail.length c7) ≠ some b := own_foreignV o7 v7 (by decide)
    have hB7 : B ≤ w6.drew.heap.size := Nat.le_trans hB hK6.size
    refine ⟨rfl, ⟨⟨a7, H.tail.length, c7⟩, H.tail, ⟨v8, own_base (own_keep o7 k8 (fun q hq e => ob7 (by have e : q = b := e; rw [← e]; exact hq))) hB7, ?_, ?_, hgood⟩⟩, (hK6.trans0 K67).trans' (k8.mono fun q _ e => .inl e)⟩
    · have := hgood
      simp only [List.length_tail, hHl, hM, hMl]
    · intro i hi
      have bk := bk6
      have r8 : ∀ j (hj : j < H.length), w8.ownsRow B 48 3 H[j].v (M[j]'(by omega)).length ((M[j]'(by omega)).flatMap chC) := by
        intro j hj
        have r : w6.ownsRow B 48 3 H[j].v (M[j]'(by omega)).length ((M[j]'(by omega)).flatMap chC) := by
          subst hH; subst hM
          by_cases hlt : j < hs.length
          · simp only [List.getElem_append_left hlt, List.getElem_append_left (show j < k.notes.length by omega)]
            exact r6 j hlt
          · have hii : j = hs.length := by omega
            subst hii
            simp only [List.getElem_append_right (Nat.le_refl _), List.getElem_append_right (show k.notes.length ≤ hs.length by omega), Nat.sub_self, show hs.length - k.notes.length = 0 by omega, List.getElem_singleton]
            exact l6
        exact own_keep (own_keep0 r K67) k8 fun q hq e => own_foreignV (own_keep0 r K67) v7 (by decide) (by have e : q = b := e; rw [← e]; exact hq)
      rw [List.length_tail] at hi
      have := r8 (i + 1) (by omega)
      simp only [List.getElem_tail, hM]
      exact this
end
end Go.Proofs.Ytcplagfblmemhaa

-- alias Try
namespace Go.Proofs.Ytcplagfblmemhaa
set_option linter.unusedVariables false
open Go.Shelf Go.RowKit Go.Pw Go.Vc Go.Cs Go.Lib Go.Cd
set_option linter.unusedVariables false
set_option maxRecDepth 100000
def ren165 : Go.Shelf.Ren := ⟨fun | 165 => 53 | 240 => 60 | 241 => 61 | 276 => 73 | 277 => 74 | n => n, fun | 0 => 0 | 3 => 3 | 4 => 4 | 5 => 5 | 9 => 9 | 20 => 20 | 37 => 89 | 70 => 88 | 72 => 91 | 164 => 118 | n => n, fun | n => n⟩
theorem lays165 : Go.Proofs.Lays.n165 Try.prog ren165 := {
  mixed := by kernel_rfl
  f165 := Try.func53.trans (congrArg some (by kernel_rfl))
  f240 := Try.func60.trans (congrArg some (by kernel_rfl))
  f241 := Try.func61.trans (congrArg some (by kernel_rfl))
  f276 := Try.func73.trans (congrArg some (by kernel_rfl))
  f277 := Try.func74.trans (congrArg some (by kernel_rfl))
  t0 := Try.underlying0
  a0 := Try.isAgg0
  z0 := Try.sizeOf0
  v0 := Try.zeroValue0
  t3 := Try.underlying3
  a3 := Try.isAgg3
  z3 := Try.sizeOf3
  v3 := Try.zeroValue3
  t4 := Try.underlying4
  a4 := Try.isAgg4
  z4 := Try.sizeOf4
  v4 := Try.zeroValue4
  t9 := Try.underlying9
  a9 := Try.isAgg9
  z9 := Try.sizeOf9
  v9 := Try.zeroValue9
  t20 := Try.underlying20
  a20 := Try.isAgg20
  z20 := Try.sizeOf20
  v20 := Try.zeroValue20
  t37 := Try.underlying89
  a37 := Try.isAgg89
  z37 := Try.sizeOf89
  v37 := Try.zeroValue89
  t70 := Try.underlying88
  a70 := Try.isAgg88
  z70 := Try.sizeOf88
  v70 := Try.zeroValue88
  t72 := Try.underlying91
  a72 := Try.isAgg91
  z72 := Try.sizeOf91
  v72 := Try.zeroValue91
  t164 := Try.underlying118
  a164 := Try.isAgg118
  z164 := Try.sizeOf118
  v164 := Try.zeroValue118 }
theorem ext165 : Builder.Extra Try.prog ren165 := {
  sizeBuilder := by kernel_rfl
  liesBuilder := by kernel_rfl
  t5 := Try.underlying5
  a5 := Try.isAgg5
  z5 := Try.sizeOf5
  v5 := Try.zeroValue5
  infoByte := by kernel_rfl
  cellsByte := by kernel_rfl
  sizeByte := by kernel_rfl
  neB5 := by decide }
theorem s_grow {n : Nat} (w : World) (B b : Nat) (hB : B ≤ b) (hbk : w.heap[b]? = some (.cells #[.pointer none, .slice none 0 0] 91)) (hBw : B ≤ w.heap.size) (hn : n ≤ 281474976710656) :
    Calls Try.prog 53 #[.pointer (some ⟨b, 0, none⟩), .int .i64 n] w fun e w' => e = .returned (.tuple #[]) ∧ Bld w' B b [] ∧ Below B w w' :=
  (Any.Builder_Grow_fresh lays165 ext165 B b n w hB hbk hBw hn).mono fun e w' ⟨h1, h2, h3⟩ => by
    obtain ⟨q1, v, q2, q3, q4⟩ := h2
    exact ⟨h1, .inr ⟨q1, v, q2, World.ownsRowF_of q3, q4⟩, h3⟩
theorem flat_len_take (l : List (List UInt8)) {i : Nat} (h : i < l.length) : ((l.take (i + 1)).flatten).length = (l.take i).flatten.length + l[i].length := by
  rw [List.take_succ_eq_append_getElem h, List.flatten_append, List.length_append, List.flatten_singleton]
theorem flat_len_le (l : List (List UInt8)) (i : Nat) : (l.take i).flatten.length ≤ l.flatten.length := by
  conv => rhs; rw [← List.take_append_drop i l]
  rw [List.flatten_append, List.length_append]; omega
section
variable {w : World}
set_option maxHeartbeats 4000000 in
theorem s_join (l : List (List UInt8)) {v : Value} (hv : RowT w v l) (hcap : ∀ a n c, v = .slice a n c → n ≤ c) (hl : l.flatten.length ≤ 140737488355328) (hn : l.length ≤ 1000000) :
    Calls Try.prog 34 #[v, .string ⟨#[]⟩] w fun e w' => e = .returned (.string (str l.flatten)) ∧ Keeps w w' none_ := by
  obtain ⟨a, cap, rfl, hr⟩ := hv
  have hcap := hcap _ _ _ rfl
  refine calls_of_vc (args := [.slice a l.length cap, .string ⟨#[]⟩]) Try.func34 rfl (Nat.le_of_ble_eq_true rfl) ?_; refine Sat.go hmix ?_; conv => whnf
  by_cases h0 : l.length = 0
  · refine KGO ?_
    rw [List.eq_nil_of_length_eq_zero h0]
    exact ⟨rfl, Keeps.refl _ _⟩
  obtain ⟨gb, o, rfl, hgb, hat⟩ := hr (by omega)
  by_cases h1 : l.length = 1
  · have hca := at_txt hat (show 0 < l.length by omega)
    refine KGO ?_
    refine ⟨?_, Keeps.refl _ _⟩
    obtain ⟨x, rfl⟩ := List.length_eq_one_iff.1 h1
    simp
  refine KGO ?_
  refine Loop.intro (ι := Nat) (fun i => [(0, .slice (some ⟨gb, o, none⟩) l.length cap), (1, .string ⟨#[]⟩), (5, .int .i64 ((l.take i).flatten.length : Nat)), (39, .slice (some ⟨gb, o, none⟩) l.length cap), (40, .int .i64 (l.length : Nat)), (41, .int .i64 (i : Nat))])
    (fun i wr => Keeps w wr none_ ∧ i ≤ l.length) (fun i => l.length - i) 0 ⟨rfl, rfl, rfl, rfl, rfl, rfl, trivial⟩ ⟨Keeps.refl _ _, by omega⟩ ?_
  rintro i g wr ⟨hK, hi⟩
  have hle := flat_len_le l i
  (first | refine Then.go hmix ?_ | refine Sat.go hmix ?_ | refine ResK.go ?_ | skip); conv => whnf
  by_cases hlt : i < l.length
  · have hca := at_txt hat hlt
    have hfl := flat_len_take l hlt
    have hle2 := flat_len_le l (i + 1)
    have hsz : (str l[i]).size = l[i].length := rfl
    obtain ⟨X, hX⟩ : ∃ X, str l[i] = X := ⟨_, rfl⟩
    rw [hX] at hca hsz
    refine KGO ?_
    exact ⟨i + 1, ⟨rfl, rfl, v_int (by rw [hfl]; omega), rfl, rfl, v_int (by simp), trivial⟩, ⟨hK, by omega⟩, by dsimp only; omega⟩
  · have hii : i = l.length := by omega
    subst hii
    rw [List.take_length] at hle ⊢
    refine KGO ?_
    have hb0 : (wr.alloc (.cells #[.pointer none, .slice none 0 0] 91)).heap[wr.heap.size]? = some (.cells #[.pointer none, .slice none 0 0] 91) := heap_alloc_new _ _
    have k1 : Keeps wr (wr.alloc (.cells #[.pointer none, .slice none 0 0] 91)) none_ := (Keeps.refl _ _).alloc _
    generalize wr.alloc (.cells #[.pointer none, .slice none 0 0] 91) = w1 at *
    have K1 := hK.trans0 k1
    obtain ⟨b, hb⟩ : ∃ b, wr.heap.size = b := ⟨_, rfl⟩
    have hwb : w.heap.size ≤ b := by have := hK.size; omega
    rw [hb] at hb0 ⊢
    refine CallS.of (Try.call53 _ _) (s_grow (n := l.flatten.length) w1 w.heap.size b hwb hb0 K1.size (by omega)) ?_
    rintro e w2 ⟨rfl, hb2, hbe2⟩
    refine ⟨_, rfl, ?_⟩; (first | refine Then.go hmix ?_ | refine Sat.go hmix ?_ | refine ResK.go ?_ | skip); conv => whnf
    have K2 := K1.below' hbe2 (Nat.le_refl _)
    have hca := at_txt hat (show 0 < l.length by omega)
    have hl0 : (l[0]'(by omega)).length ≤ l.flatten.length := by
      have e := flat_len_take l (i := 0) (by omega)
      have e2 := flat_len_le l (0 + 1)
      omega
    have hsz : (str l[0]).size = l[0].length := rfl
    refine KGO ?_
    refine CallS.of (Try.call54 _ _) (s_writeString (str l[0]) w2 hb2 (by rw [hsz, List.length_nil]; omega) K2.size) ?_
    rintro e w3 ⟨rfl, hb3, hbe3, _⟩
    refine ⟨_, rfl, ?_⟩; (first | refine Then.go hmix ?_ | refine Sat.go hmix ?_ | refine ResK.go ?_ | skip); conv => whnf
    have K3 := K2.below' hbe3 (Nat.le_refl _)
    rw [List.nil_append, show L (str l[0]) = l[0] from rfl] at hb3
    refine KGO ?_
    refine Cut.fromI (l := 1) (by omega) (by omega) (by omega) ?_
    (first | refine Then.go hmix ?_ | refine Sat.go hmix ?_ | refine ResK.go ?_ | skip); conv => whnf
    rw [if_neg (show ¬ Int.toNat 1 = cap by simp; omega)]
    refine KGO ?_

    refine Loop.intro (ι := Nat) (fun i => [(1, .string ⟨#[]⟩), (8, .pointer (some ⟨b, 0, none⟩)), (63, .slice (some ⟨gb, o + 1, none⟩) (l.length - 1) (cap - 1)), (64, .int .i64 ((l.length - 1 : Nat) : Int)), (65, .int .i64 (i : Nat))])
      (fun i wr => Keeps w wr none_ ∧ i + 1 ≤ l.length ∧ Bld wr w.heap.size b (l.take (i + 1)).flatten) (fun i => l.length - i) 0 ⟨rfl, rfl, rfl, rfl, rfl, trivial⟩ ⟨K3, by omega, ?_⟩ ?_
    · rw [List.take_succ_eq_append_getElem (by omega)]; simpa using hb3
    rintro i g wr ⟨hK, hi, hbr⟩
    (first | refine Then.go hmix ?_ | refine Sat.go hmix ?_ | refine ResK.go ?_ | skip); conv => whnf
    by_cases hlt : i + 1 < l.length
    · have hca := at_txt hat hlt
      have hca2 : w.cell? ⟨gb, o + 1 + i, none⟩ = some (.string (str l[i + 1])) := by rw [show o + 1 + i = o + (i + 1) by omega]; exact hca
      have hfl := flat_len_take l hlt
      have hle2 := flat_len_le l (i + 1 + 1)
      have hsz : (str l[i + 1]).size = l[i + 1].length := rfl
      refine KGO ?_
      refine CallS.of (Try.call54 _ _) (s_writeString ⟨#[]⟩ wr hbr (by show _ + 0 ≤ _; omega) hK.size) ?_
      rintro e w5 ⟨rfl, hb5, hbe5, _⟩
      refine ⟨_, rfl, ?_⟩; (first | refine Then.go hmix ?_ | refine Sat.go hmix ?_ | refine ResK.go ?_ | skip); conv => whnf
      rw [show L ⟨#[]⟩ = [] from rfl, List.append_nil] at hb5
      have K5 := hK.below' hbe5 (Nat.le_refl _)
      refine CallS.of (Try.call54 _ _) (s_writeString (str l[i + 1]) w5 hb5 (by rw [hsz]; omega) K5.size) ?_
      rintro e w6 ⟨rfl, hb6, hbe6, _⟩
      refine ⟨_, rfl, ?_⟩; (first | refine Then.go hmix ?_ | refine Sat.go hmix ?_ | refine ResK.go ?_ | skip); conv => whnf
      rw [show L (str l[i + 1]) = l[i + 1] from rfl] at hb6
      refine KGO ?_
      refine ⟨i + 1, ⟨rfl, rfl, rfl, rfl, v_int (by simp), trivial⟩, ⟨K5.below' hbe6 (Nat.le_refl _), by omega, ?_⟩, by dsimp only; omega⟩
      rw [List.take_succ_eq_append_getElem hlt, List.flatten_append, List.flatten_singleton]; exact hb6
    · refine KGO ?_
      have hii : i + 1 = l.length := by omega
      rw [hii, List.take_length] at hbr
      refine CallS.of (Try.call51 _ _) (s_string wr hbr hK.size) ?_
      rintro e w5 ⟨rfl, hb5, hbe5, _⟩
      refine ⟨_, rfl, ?_⟩; (first | refine Then.go hmix ?_ | refine Sat.go hmix ?_ | refine ResK.go ?_ | skip); conv => whnf
      exact ⟨rfl, hK.below' hbe5 (Nat.le_refl _)⟩
end
end Go.Proofs.Ytcplagfblmemhaa
