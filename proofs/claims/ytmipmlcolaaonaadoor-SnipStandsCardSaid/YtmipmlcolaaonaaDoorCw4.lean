/- Helper text of this claim: Cw4: lemmas and contracts that the proved statement rests on; no conditions of its own. -/
import Derived.Test.YtmipmlcolaaonaaDoorCw2
import Derived.Test.YtmipmlcolaaonaaDoorCw3
import Derived.Test.YtmipmlcolaaonaaDoorGwc
import Derived.Test.YtmipmlcolaaonaaDoorWcz
-- alias Tryd
namespace Go.Proofs.YtmipmlcolaaonaaDoor
open Go.RowKit Go.Pw Go.Vc Go.Cs Go.Lib
set_option linter.unusedVariables false
set_option maxRecDepth 100000
theorem _root_.Go.Pw.Keeps.ofGrown {w w' : World} {row : Option Nat} (h : w.grownBy w' row) : Keeps w w' (fun k => row = some k) :=
  ⟨h.os, h.tape, h.output, h.size, fun k hk hn => h.block k hk fun e => hn e.symm⟩
abbrev Wd := List UInt8 × Nat × Nat
def wordCells (x : Wd) : List Value := [.string (str x.1), .int .i64 (x.2.1 : Nat), .int .i64 (x.2.2 : Nat)]
/-- A row of words, the call's own. -/
def Wds (w : World) (B : Nat) (v : Value) (l : List Wd) : Prop := w.ownsRow B 41 3 v l.length (l.flatMap wordCells)
theorem wordInfo : (Tryd.prog.info? 41).map (fun i => (i.zero, i.size, i.bytes)) = some (some (.agg #[.string ⟨#[]⟩, .int .i64 0, .int .i64 0]), 3, 32) := by kernel_rfl
theorem build_word (s : ByteArray) (a b : Int) (w : World) : (Instr.build 41 [(0, .string s), (1, .int .i64 a), (2, .int .i64 b)].toArray).run Tryd.prog w = .ok (.agg #[.string s, .int .i64 a, .int .i64 b]) w := by
  simp [Instr.build, Instr.fill, go_sem, Tryd.runUnderlying41]
theorem build_words1 (s : ByteArray) (a b : Int) (w : World) : (Instr.buildSlice 34 1 [(0, .agg #[.string s, .int .i64 a, .int .i64 b])].toArray).run Tryd.prog w = .ok (.slice (some ⟨w.heap.size, 0, none⟩) 1 1) (w.alloc (.cells #[.string s, .int .i64 a, .int .i64 b] 41)) := by
  simp [Instr.buildSlice, go_sem, Tryd.runUnderlying34]
theorem app_word {w : World} {K : Value → World → Prop} {B : Nat} {v : Value} {l : List Wd} {cs : Array Bool} (h : Wds w B v l) (hB : B ≤ w.heap.size) (x : Wd) (hl : l.length ≤ 1000000000)
    (k : ∀ v' w', Wds w' B v' (l ++ [x]) → (w.alloc (.cells (wordCells x).toArray 41)).grownBy w' v.ownBlock → K v' w') :
    RunN Tryd.prog (builtin .append #[34, 34] 34 cs [v, .slice (some ⟨w.heap.size, 0, none⟩) 1 1].toArray) (w.alloc (.cells (wordCells x).toArray 41)) K := by
  refine RunN.app Tryd.underlying34 wordInfo rfl (by decide) (own_keep0 h ((Keeps.refl _ _).alloc _)) (Nat.le_trans hB ((Keeps.refl w none_).alloc _).size) ⟨w.heap.size, 0, none⟩ 1 1 (wordCells x) rfl (new_cells _ _ _) (by simp [wordCells, Value.oneCell']) (by omega) (by omega) fun v' w' h2 h3 => k v' w' ?_ h3
  unfold Wds
  rw [List.length_append, List.flatMap_append]
  simpa using h2
/-- The state of Words: the text, the words so far, where the open one begins. -/
structure WSt (w0 w : World) (bs bo bf : Nat) (s : ByteArray) (v : Value) (l : List Wd) (fr : Int) : Prop where
  k : Keeps w0 w none_
  hbs : w0.heap.size ≤ bs
  hbo : w0.heap.size ≤ bo
  hbf : w0.heap.size ≤ bf
  cs : Var1 w bs 9 (.string s)
  co : Var1 w bo 34 v
  cf : Var1 w bf 3 (.int .i64 fr)
  row : Wds w w0.heap.size v l
section
variable {w0 w : World} {bs bo bf : Nat} {s : ByteArray} {v : Value} {l : List Wd} {fr : Int}
theorem WSt.setFrom (h : WSt w0 w bs bo bf s v l fr) (x : Int) : WSt w0 (w.setCell ⟨bf, 0, none⟩ (.int .i64 x)) bs bo bf s v l x :=
  ⟨h.k.setCell (p := ⟨bf, 0, none⟩) (.inr h.hbf) _, h.hbs, h.hbo, h.hbf, h.cs.set_ne (h.cs.ne h.cf (by decide)), h.co.set_ne (h.co.ne h.cf (by decide)), h.cf.set _,
    own_keep h.row ((Keeps.refl w (one_ bf)).setCell (p := ⟨bf, 0, none⟩) (.inl rfl) _) fun b hb e => h.cf.ne_own h.row (by decide) (by rw [hb]; exact congrArg some e)⟩
theorem WSt.iter {bi : Nat} {t : ByteArray} {p : Nat} {o : Obj} (h : WSt w0 w bs bo bf s v l fr) (hi : w.heap[bi]? = some (.stringIter t p)) (hb : w0.heap.size ≤ bi) : WSt w0 (setO w bi o) bs bo bf s v l fr := by
  have k := setO_keeps (w := w) (b := bi) o
  have ne : ∀ {b : Nat} {T : TypeId} {u : Value}, Var1 w b T u → ¬ one_ bi b := fun hv e => by
    have e : _ = bi := e
    unfold Var1 at hv
    rw [e, hi] at hv; cases hv
  refine ⟨h.k.trans k fun i hi' e => ?_, h.hbs, h.hbo, h.hbf, h.cs.keep k (ne h.cs), h.co.keep k (ne h.co), h.cf.keep k (ne h.cf), own_keep h.row k fun b hb e => ?_⟩
  · have e : i = bi := e
    omega
  · have e : b = bi := e
    rcases h.row.2 with ⟨hn, _⟩ | ⟨g, cap, cur, hn, _, hg, _⟩
    · rw [hn] at hb; cases hb
    · rw [hn] at hb
      injection hb with hb
      have hb : g = b := hb
      rw [hb, e, hi] at hg; cases hg
theorem WSt.keep {w' : World} (h : WSt w0 w bs bo bf s v l fr) (k : Keeps w w' none_) : WSt w0 w' bs bo bf s v l fr :=
  ⟨h.k.trans0 k, h.hbs, h.hbo, h.hbf, h.cs.keep k id, h.co.keep k id, h.cf.keep k id, own_keep0 h.row k⟩
/-- The iterators are as they were. -/
def IterKept (w w' : World) : Prop := ∀ (bi : Nat) (t : ByteArray) (p : Nat), w.heap[bi]? = some (.stringIter t p) → w'.heap[bi]? = some (.stringIter t p)
theorem IterKept.trans {a b c : World} (h : IterKept a b) (k : IterKept b c) : IterKept a c := fun bi t p hi => k bi t p (h bi t p hi)
theorem IterKept.set {w : World} {b : Nat} {T : TypeId} {v : Value} (h : Var1 w b T v) (u : Value) : IterKept w (w.setCell ⟨b, 0, none⟩ u) := fun bi t p hi => by
  rw [RowKit.Below.heap_setCell _ _ _ _ (fun e => by have e : bi = b := e; subst e; unfold Var1 at h; rw [hi] at h; cases h)]
  exact hi
theorem IterKept.keep {w w' : World} (k : Keeps w w' none_) : IterKept w w' := fun bi t p hi => (k.block bi (lt_of_obj hi) id).trans hi
set_option maxHeartbeats 2000000 in
theorem words_end (h : WSt w0 w bs bo bf s v l fr) (hT : FoldTab w0) (hs : s.size ≤ 100000000) (m : Nat) (hto : m ≤ s.size) (hf : fr ≤ m) (h1 : -1 ≤ fr) (hl : l.length ≤ 100000000) :
    Calls Tryd.prog 69 #[.int .i64 (m : Int), .pointer (some ⟨bf, 0, none⟩), .pointer (some ⟨bo, 0, none⟩), .pointer (some ⟨bs, 0, none⟩)] w fun e w' =>
      e = .returned (.tuple #[]) ∧ (∃ v', WSt w0 w' bs bo bf s v' (if fr < 0 then l else l ++ [(foldL (cutL (L s) (fr.toNat, m)), fr.toNat, m)]) (-1)) ∧ IterKept w w' := by
  have cf := h.cf.cell
  refine calls_of_vc (args := [.int .i64 (m : Int), .pointer (some ⟨bf, 0, none⟩), .pointer (some ⟨bo, 0, none⟩), .pointer (some ⟨bs, 0, none⟩)]) Tryd.func69 rfl (Nat.le_of_ble_eq_true rfl) ?_; refine Sat.go hmix ?_; conv => whnf
  refine GO ?_
  by_cases h0 : fr < 0
  · refine GO ?_
    refine Store.one (by rfl) ⟨rfl, by simp, by simp⟩ cf h.cf.frozen ?_
    (first | refine Then.go hmix ?_ | refine Sat.go hmix ?_ | refine ResK.go ?_ | skip); conv => whnf
    exact ⟨rfl, ⟨v, by rw [if_pos h0]; exact h.setFrom (-1)⟩, IterKept.set h.cf _⟩
  · refine GO ?_
    obtain ⟨n, rfl⟩ : ∃ n : Nat, fr = n := ⟨fr.toNat, by omega⟩
    obtain ⟨va, vc, rfl⟩ := own_shape h.row
    refine Draw.heldEnd (fun u => Keeps w u (fun k => (Value.slice va l.length vc).ownBlock = some k)) (fun _ => true) (by simp) (by decide +kernel) (by decide +kernel) (Keeps.refl _ _).drew ?_
    have f1 : ∀ u, Keeps w u (fun k => (Value.slice va l.length vc).ownBlock = some k) → u.cell? ⟨bf, 0, none⟩ = some (.int .i64 (n : Int)) := fun u k => (h.cf.keep k (h.cf.ne_own h.row (by decide))).cell
    have f2 : ∀ u, Keeps w u (fun k => (Value.slice va l.length vc).ownBlock = some k) → u.cell? ⟨bo, 0, none⟩ = some (.slice va l.length vc) := fun u k => (h.co.keep k (h.co.ne_own h.row (by decide))).cell
    have f3 : ∀ u, Keeps w u (fun k => (Value.slice va l.length vc).ownBlock = some k) → u.cell? ⟨bs, 0, none⟩ = some (.string s) := fun u k => (h.cs.keep k (h.cs.ne_own h.row (by decide))).cell
    (first | refine Then.go hmix ?_ | refine Sat.go hmix ?_ | refine ResK.go ?_ | skip); conv => whnf
    refine Held.one (by rfl) (fun u ku => f2 u ku) ?_
    (first | refine Then.go hmix ?_ | refine Sat.go hmix ?_ | refine ResK.go ?_ | skip); conv => whnf
    refine Held.one (by rfl) (fun u ku => f3 u ku) ?_
    (first | refine Then.go hmix ?_ | refine Sat.go hmix ?_ | refine ResK.go ?_ | skip); conv => whnf
    refine Held.one (by rfl) (fun u ku => f1 u ku) ?_
    refine GO ?_
    have hx : (s.extract n m).size ≤ 100000000 := by simp; omega
    have hLx : L (s.extract n m) = cutL (L s) (n, m) := L_extract s n m
    refine CallS.of (Tryd.call41 _ _) (fold_Fold (s.extract n m) (hT.keep h.k.drew) hx) ?_
    rintro e w1 ⟨rfl, k1⟩
    rw [hLx]
    refine ⟨_, rfl, ?_⟩; (first | refine Then.go hmix ?_ | refine Sat.go hmix ?_ | refine ResK.go ?_ | skip); conv => whnf
    have K1 : Keeps w w1 (fun k => (Value.slice va l.length vc).ownBlock = some k) := (Keeps.refl w _).drew.trans' (Keeps.of_none k1)
    refine ⟨K1, ?_⟩
    (first | refine Then.go hmix ?_ | refine Sat.go hmix ?_ | refine ResK.go ?_ | skip); conv => whnf
    refine Held.one (by rfl) (fun u ku => f1 u ku) ?_
    (first | refine Then.go hmix ?_ | refine Sat.go hmix ?_ | refine ResK.go ?_ | skip); conv => whnf
    refine RunV.of (build_word _ _ _ _) ?_
    (first | refine Then.go hmix ?_ | refine Sat.go hmix ?_ | refine ResK.go ?_ | skip); conv => whnf
    refine RunV.of (build_words1 _ _ _ _) ?_
    refine ⟨K1.alloc _, ?_⟩
    (first | refine Then.go hmix ?_ | refine Sat.go hmix ?_ | refine ResK.go ?_ | skip); conv => whnf
    have k0 : Keeps w w1 none_ := (Keeps.refl w _).drew.trans0 k1
    refine app_word (own_keep0 h.row k0) (Nat.le_trans h.k.size k0.size) (foldL (cutL (L s) (n, m)), n, m) (by omega) fun v' w2 h2 hg2 => ?_
    obtain ⟨a2, c2, rfl⟩ : ∃ a c, v' = .slice a (l.length + 1) c := by
      obtain ⟨a, c, e⟩ := own_shape h2
      exact ⟨a, c, by rw [e, List.length_append]; rfl⟩
    have K2 : Keeps w w2 (fun k => (Value.slice va l.length vc).ownBlock = some k) := (K1.alloc _).trans' (Keeps.ofGrown hg2)
    have k02 : Keeps w0 w2 none_ := ((h.k.trans0 k0).alloc _).own (own_keep0 (own_keep0 h.row k0) ((Keeps.refl _ _).alloc _)) (Nat.le_refl _) hg2
    refine ⟨K2, ?_⟩
    have s2 := h.cs.keep K2 (h.cs.ne_own h.row (by decide))
    have o2 := h.co.keep K2 (h.co.ne_own h.row (by decide))
    have q2 := h.cf.keep K2 (h.cf.ne_own h.row (by decide))
    (first | refine Then.go hmix ?_ | refine Sat.go hmix ?_ | refine ResK.go ?_ | skip); conv => whnf
    refine Store.one (by rfl) ⟨rfl, by simp, by simp⟩ o2.cell o2.frozen ?_
    have st : WSt w0 (w2.setCell ⟨bo, 0, none⟩ (.slice a2 (l.length + 1) c2)) bs bo bf s (.slice a2 (l.length + 1) c2) (l ++ [(foldL (cutL (L s) (n, m)), n, m)]) n :=
      ⟨k02.setCell (p := ⟨bo, 0, none⟩) (.inr h.hbo) _, h.hbs, h.hbo, h.hbf, s2.set_ne (s2.ne o2 (by decide)), o2.set _, q2.set_ne (q2.ne o2 (by decide)),
        own_keep h2 ((Keeps.refl w2 (one_ bo)).setCell (p := ⟨bo, 0, none⟩) (.inl rfl) _) fun b hb e => o2.ne_own h2 (by decide) (by rw [hb]; exact congrArg some e)⟩
    have it2 : IterKept w w2 := fun bi t p hi => (K2.block bi (lt_of_obj hi) (fun e => by
      have e : (Value.slice va l.length vc).ownBlock = some bi := e
      rcases h.row.2 with ⟨hn, _⟩ | ⟨g, cap, cur, hn, _, hg, _⟩
      · rw [hn] at e; cases e
      · rw [hn] at e
        injection e with e
        have e : g = bi := e
        rw [e, hi] at hg
        cases hg)).trans hi
    have it3 : IterKept w2 (w2.setCell ⟨bo, 0, none⟩ (.slice a2 (l.length + 1) c2)) := IterKept.set o2 _
    generalize w2.setCell ⟨bo, 0, none⟩ (.slice a2 (l.length + 1) c2) = w3 at *
    (first | refine Then.go hmix ?_ | refine Sat.go hmix ?_ | refine ResK.go ?_ | skip); conv => whnf
    refine Store.one (by rfl) ⟨rfl, by simp, by simp⟩ st.cf.cell st.cf.frozen ?_
    (first | refine Then.go hmix ?_ | refine Sat.go hmix ?_ | refine ResK.go ?_ | skip); conv => whnf
    refine ⟨rfl, ⟨.slice a2 (l.length + 1) c2, ?_⟩, (it2.trans it3).trans (IterKept.set st.cf _)⟩
    rw [if_neg h0, Int.toNat_natCast]
    exact st.setFrom (-1)
end
end Go.Proofs.YtmipmlcolaaonaaDoor
