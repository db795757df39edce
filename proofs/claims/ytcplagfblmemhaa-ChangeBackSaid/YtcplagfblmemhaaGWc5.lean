/- Helper text of this claim: Wc5, Wc6, Wc7, Wc8, Wc9: lemmas and contracts that the proved statement rests on; no conditions of its own. -/
import Derived.Test.YtcplagfblmemhaaWc4
import Derived.Test.YtcplagfblmemhaaGWc3
import Derived.RangeFuncLeaves
import Derived.RangeFuncRecord
import Derived.Laws.MakeOwn
import Derived.Laws.OwnMore
namespace Go.Vc
set_option linter.unusedVariables false
open Go Go.Pw
set_option linter.unusedVariables false
/-! ### Loops: the slots that matter, by name -/
def setL : List (Nat × Value) → Fr → Fr
  | [], g => g
  | (i, v) :: r, g => upd (setL r g) i v
def Agree (f : Fr) : List (Nat × Value) → Prop
  | [] => True
  | (i, v) :: r => f.g i = v ∧ Agree f r
theorem setL_of {f : Fr} : ∀ {l : List (Nat × Value)}, Agree f l → setL l f = f
  | [], _ => rfl
  | (i, v) :: r, ⟨h, hr⟩ => by
    obtain ⟨g, ds⟩ := f
    simp only [setL, setL_of hr, upd]
    congr 1
    funext j
    cases hb : Nat.beq j i with
    | true => have := Nat.eq_of_beq_eq_true hb; subst this; exact h.symm
    | false => rfl
/-- The blocks of the ended ranges are the same. -/
def dsK (dl : DL) (g : Fr) (p : Prop) : Prop :=
  match dl, g.ds with
  | .nil, .nil => p
  | .of l, .of l' => l' = l ∧ p
  | _, _ => False
theorem dsK_ds {dl : DL} {g : Fr} {p : Prop} (h : dsK dl g p) : g.ds = dl ∧ p := by
  unfold dsK at h
  split at h
  · rename_i e; exact ⟨e, h⟩
  · rename_i e; obtain ⟨rfl, h⟩ := h; exact ⟨e, h⟩
  · exact h.elim
theorem fr_eta {g : Fr} {dl : DL} (h : g.ds = dl) : (⟨g.g, dl⟩ : Fr) = g := by subst h; rfl
/-- What a round must come to. -/
def roundK {ι : Type} (P : Program) (n : Nat) (slots : ι → List (Nat × Value)) (I : ι → World → Prop) (μ : ι → Nat) (i : ι) (dl : DL) (K : Exit → Fr → World → Prop) (t : List It) : Exit → Fr → World → Prop
  | .normal, g, w => dsK dl g (Ret (∃ j, Agree g (slots j) ∧ I j w ∧ μ j < μ i))
  | .exit i, g, w => Sat P n K (.exit i) t g w
  | .goto l, g, w => Sat P n K (.goto l) t g w
  | .ret, g, w => Sat P n K .ret t g w
  | .panic ch, g, w => Sat P n K (.panic ch) t g w
  | .outgrown, g, w => Sat P n K .outgrown t g w
theorem Loop.intro {P : Program} {n : Nat} {c : Code} {t : List It} {K : Exit → Fr → World → Prop} {fg : Nat → Value} {dl : DL} {w : World} {ι : Type} (slots : ι → List (Nat × Value)) (I : ι → World → Prop) (μ : ι → Nat) (i₀ : ι)
    (h₀ : Agree ⟨fg, dl⟩ (slots i₀)) (hI : I i₀ w) (round : ∀ i g w, I i w → Sat P n (roundK P n slots I μ i dl K t) .normal [.code c] (setL (slots i) ⟨g, dl⟩) w) : Loop P n K c t ⟨fg, dl⟩ w := by
  refine ⟨fun hf => wpX_loop_g (fun i a w => ∃ g, Ok n g ∧ a = act n g ∧ g.ds = dl ∧ Agree g (slots i) ∧ I i w) μ i₀ ⟨⟨fg, dl⟩, hf, rfl, rfl, h₀, hI⟩ ?_⟩
  rintro i a w ⟨g, hg, rfl, hd, hag, hI⟩
  have hr := round i g.g w hI
  rw [fr_eta hd, setL_of hag] at hr
  have hr := hr.h hg
  refine wpX_mono (show c.wpX P (LiftE n (after P n [] _)) (act n g) w from hr) fun e a' w' he => ?_
  obtain ⟨g', hg', rfl, hk⟩ := he
  have hk : roundK P n slots I μ i dl K t e g' w' := hk
  cases e with
  | normal =>
    obtain ⟨hd, hk⟩ := dsK_ds hk
    obtain ⟨j, h1, h2, h3⟩ := Ret.h hk
    exact ⟨j, ⟨g', hg', rfl, hd, h1, h2⟩, h3⟩
  | _ => exact ⟨g', hg', rfl, Sat.h hk hg'⟩
/-- A loop that holds a range over a function: the list of the blocks grows. -/
def roundKD {ι : Type} (P : Program) (n : Nat) (slots : ι → List (Nat × Value)) (I : ι → List Nat → World → Prop) (μ : ι → Nat) (i : ι) (K : Exit → Fr → World → Prop) (t : List It) : Exit → Fr → World → Prop
  | .normal, g, w => Ret (∃ j, Agree g (slots j) ∧ I j g.ds.toL w ∧ μ j < μ i)
  | .exit i, g, w => Sat P n K (.exit i) t g w
  | .goto l, g, w => Sat P n K (.goto l) t g w
  | .ret, g, w => Sat P n K .ret t g w
  | .panic ch, g, w => Sat P n K (.panic ch) t g w
  | .outgrown, g, w => Sat P n K .outgrown t g w
theorem act_of {n : Nat} (g : Fr) : act n ⟨g.g, .of g.ds.toL⟩ = act n g := by
  obtain ⟨g, ds⟩ := g
  cases ds <;> rfl
theorem Loop.introD {P : Program} {n : Nat} {c : Code} {t : List It} {K : Exit → Fr → World → Prop} {f : Fr} {w : World} {ι : Type} (slots : ι → List (Nat × Value)) (I : ι → List Nat → World → Prop) (μ : ι → Nat) (i₀ : ι)
    (h₀ : Agree f (slots i₀)) (hI : I i₀ f.ds.toL w) (round : ∀ i l g w, I i l w → Sat P n (roundKD P n slots I μ i K t) .normal [.code c] (setL (slots i) ⟨g, .of l⟩) w) : Loop P n K c t f w := by
  refine ⟨fun hf => wpX_loop_g (fun i a w => ∃ g, Ok n g ∧ a = act n g ∧ Agree g (slots i) ∧ I i g.ds.toL w) μ i₀ ⟨f, hf, rfl, h₀, hI⟩ ?_⟩
  rintro i a w ⟨g, hg, rfl, hag, hI⟩
  have hr := round i g.ds.toL g.g w hI
  have hag' : Agree ⟨g.g, .of g.ds.toL⟩ (slots i) := by
    have : ∀ l, Agree g l → Agree ⟨g.g, .of g.ds.toL⟩ l := fun l => by
      induction l with
      | nil => exact id
      | cons x r ih => exact fun h => ⟨h.1, ih h.2⟩
    exact this _ hag
  rw [setL_of hag'] at hr
  have hr := hr.h (show Ok n ⟨g.g, .of g.ds.toL⟩ from hg)
  have hr : c.wpX P (LiftE n (after P n [] (roundKD P n slots I μ i K t))) (act n ⟨g.g, .of g.ds.toL⟩) w := hr
  rw [act_of] at hr
  refine wpX_mono hr fun e a' w' he => ?_
  obtain ⟨g', hg', rfl, hk⟩ := he
  have hk : roundKD P n slots I μ i K t e g' w' := hk
  cases e with
  | normal =>
    obtain ⟨j, h1, h2, h3⟩ := Ret.h hk
    exact ⟨j, ⟨g', hg', rfl, h1, h2⟩, h3⟩
  | _ => exact ⟨g', hg', rfl, Sat.h hk hg'⟩

/-! ### The whole function -/
def retV : List Value → Value
  | [v] => v
  | l => .tuple l.toArray
def initG : List Value → Nat → Value
  | [], _ => undef
  | v :: _, 0 => v
  | _ :: r, j + 1 => initG r j
def initF (l : List Value) : Fr := ⟨initG l, .nil⟩
theorem initG_get : ∀ (l : List Value) (j : Nat), initG l j = l.getD j undef
  | [], j => by cases j <;> rfl
  | v :: r, 0 => rfl
  | v :: r, j + 1 => by simp only [initG, initG_get r j]; rfl
theorem initF_get (l : List Value) (j : Nat) : (initF l).g j = l.getD j undef := initG_get l j
theorem init_act {n : Nat} {args : List Value} (h : args.length ≤ n) : args.toArray ++ Array.replicate (n - args.toArray.size) undef = frArr n (initF args) := by
  apply Array.ext'
  simp only [frArr, Array.toList_append, Array.toList_replicate, List.size_toArray]
  apply List.ext_getElem?
  intro j
  rw [List.getElem?_append, List.getElem?_map]
  by_cases hj : j < args.length
  · rw [if_pos hj, List.getElem?_range (by omega), Option.map_some, initF_get, List.getD_eq_getElem?_getD, List.getElem?_eq_getElem hj]; rfl
  · rw [if_neg hj]
    by_cases hn : j < n
    · rw [List.getElem?_range hn, Option.map_some, initF_get, List.getElem?_replicate, if_pos (by omega), List.getD_eq_getElem?_getD, List.getElem?_eq_none (l := args) (by omega)]; rfl
    · rw [List.getElem?_eq_none (by simp; omega), List.getElem?_eq_none (by simp; omega)]; rfl
theorem init_ok {n : Nat} {args : List Value} (h : args.length ≤ n) : Ok n (initF args) := fun j hj => by
  rw [initF_get, List.getD_eq_getElem?_getD, List.getElem?_eq_none (by omega)]; rfl

inductive RS where
  | val (v : Value)
  | load (t : TypeId) (a : Addr) (acc : List Value) (rest : List ResultVar)
  | bad
/-- The results, as far as they stand in slots. -/
def resR (f : Fr) : List ResultVar → List Value → RS
  | [], acc => (match acc with
      | [] => .val (.tuple #[])
      | [v] => .val v
      | [a, b] => .val (.tuple #[a, b])
      | [a, b, c] => .val (.tuple #[a, b, c])
      | l => .val (.tuple l.toArray))
  | .tmp t :: r, acc => force (f.g t) fun v => (match acc with
      | [] => resR f r [v]
      | [a] => resR f r [a, v]
      | [a, b] => resR f r [a, b, v]
      | acc => resR f r (acc ++ [v]))
  | .cell a t :: r, acc => (match f.g a with
      | .pointer (some ⟨b, o, s⟩) => .load t ⟨b, o, s⟩ acc r
      | _ => .bad)
def resM (tmps : Array Value) : ResultVar → Sem Value
  | .tmp t => pure (tmps.getD t undef)
  | .cell a t => do loadVar t (← asAddr (tmps.getD a undef))
structure ResK (P : Program) (n : Nat) (f : Fr) (w : World) (rs : List ResultVar) (acc : List Value) (R : Value → Prop) : Prop where
  h : Ok n f → ∃ vs, (rs.mapM (resM (frArr n f))).run P w = .ok vs w ∧ R (retV (acc ++ vs))
def RS.holds (P : Program) (n : Nat) (f : Fr) (w : World) (R : Value → Prop) : RS → Prop
  | .val v => Ret (R v)
  | .load t a acc rest => Load P t a w fun v => ResK P n f w rest (acc ++ [v]) R
  | .bad => False
theorem resR_ok {P : Program} {n : Nat} {f : Fr} (hf : Ok n f) {w : World} {R : Value → Prop} : ∀ (rs : List ResultVar) (acc : List Value), (resR f rs acc).holds P n f w R →
    ∃ vs, (rs.mapM (resM (frArr n f))).run P w = .ok vs w ∧ R (retV (acc ++ vs))
  | [], acc, h => ⟨[], rfl, by
      rw [List.append_nil]
      match acc, h with
      | [], h => exact Ret.h h
      | [v], h => exact Ret.h h
      | [a, b], h => exact Ret.h h
      | [a, b, c], h => exact Ret.h h
      | a :: b :: c :: d :: l, h => exact Ret.h h⟩
  | .tmp t :: r, acc, h => by
    have h : (resR f r (acc ++ [f.g t])).holds P n f w R := by
      simp only [resR, force_eq] at h
      split at h <;> exact h
    obtain ⟨vs, h1, h2⟩ := resR_ok hf r _ h
    refine ⟨f.g t :: vs, ?_, by simpa using h2⟩
    simp [List.mapM_cons, resM, frArr_getD hf, h1]
  | .cell a t :: r, acc, h => by
    simp only [resR] at h
    split at h
    · rename_i b o s he
      have h : Load P t ⟨b, o, s⟩ w fun v => ResK P n f w r (acc ++ [v]) R := h
      obtain ⟨v, h1, h2⟩ := h.h
      obtain ⟨vs, h3, h4⟩ := h2.h hf
      refine ⟨v :: vs, ?_, by simpa using h4⟩
      simp [List.mapM_cons, resM, frArr_getD hf, he, asAddr, h1, h3]
    · exact h.elim
theorem ResK.go {P : Program} {n : Nat} {f : Fr} {w : World} {rs : List ResultVar} {acc : List Value} {R : Value → Prop} (h : (resR f rs acc).holds P n f w R) : ResK P n f w rs acc R := ⟨fun hf => resR_ok hf rs acc h⟩
theorem results_eq (fn : Func) (tmps : Array Value) : results fn tmps = (do let vs ← fn.results.mapM (resM tmps); pure (if h : vs.size = 1 then vs[0] else .tuple vs)) := by
  have : (fun | .tmp t => pure (tmps.getD t undef) | .cell a t => do loadVar t (← asAddr (tmps.getD a undef)) : ResultVar → Sem Value) = resM tmps := by
    funext r; cases r <;> rfl
  unfold results
  rw [← this]
  rfl
theorem retV_eq (vs : List Value) : (if h : vs.toArray.size = 1 then vs.toArray[0] else .tuple vs.toArray : Value) = retV vs := by
  match vs with
  | [] => rfl
  | [v] => rfl
  | a :: b :: r => rfl
theorem res_ok {P : Program} {n : Nat} {f : Fr} (hf : Ok n f) {w : World} {fn : Func} {K : Value → Prop} (h : (resR f fn.results.toList []).holds P n f w K) :
    ∃ v, (results fn (frArr n f)).run P w = .ok v w ∧ K v := by
  obtain ⟨vs, h1, h2⟩ := resR_ok hf _ _ h
  refine ⟨retV vs, ?_, by simpa using h2⟩
  rw [results_eq]
  have : fn.results.mapM (resM (frArr n f)) = List.toArray <$> fn.results.toList.mapM (resM (frArr n f)) := by
    rw [Array.mapM_eq_mapM_toList]
  rw [this]
  simp only [Sem.run_bind, Sem.run_map, h1, Result.andThen_ok, Sem.run_pure, retV_eq]
/-- The blocks of the ended ranges: each is there, and holds no deferred call. -/
structure AllD (l : List Nat) (w : World) : Prop where
  nodup : l.Nodup
  all : ∀ D ∈ l, w.heap[D]? = some (.deferred (some []))
theorem AllD.nil (w : World) : AllD [] w := ⟨List.nodup_nil, fun _ h => by cases h⟩
/-- The end of a function that holds ranges over functions: their blocks are shut. -/
structure EndD (P : Program) (n : Nat) (rs : List ResultVar) (R : Ending → World → Prop) (l : List Nat) (f : Fr) (w : World) : Prop where
  d : AllD l w
  k : ∀ w', Keeps w w' (fun b => b ∈ l) → (resR f rs []).holds P n f w' fun v => R (.returned v) w'
def endW (P : Program) (n : Nat) (rs : List ResultVar) (R : Ending → World → Prop) (f : Fr) (w : World) : Prop :=
  match f.ds with
  | .nil => (resR f rs []).holds P n f w fun v => R (.returned v) w
  | .of l => EndD P n rs R l f w
def endK (P : Program) (n : Nat) (rs : List ResultVar) (R : Ending → World → Prop) : Exit → Fr → World → Prop
  | .normal, f, w => endW P n rs R f w
  | .ret, f, w => endW P n rs R f w
  | _, _, _ => False
theorem take_run {P : Program} {D : Nat} {w : World} (h : w.heap[D]? = some (.deferred (some []))) : (Instr.takeDeferred D).run P w = .ok [] (w.putObj D (.deferred none)) := by
  exact run_takeDeferred h
theorem leaves_all {P : Program} {fn : Func} {tmps : Array Value} {R : Ending → World → Prop} : ∀ (l : List Nat) (w : World), AllD l w → (∀ w', Keeps w w' (fun b => b ∈ l) → ∃ v, (results fn tmps).run P w' = .ok v w' ∧ R (.returned v) w') →
    LeavesInM Fence.wide 0 P fn tmps R (l.map mark_) .returning w
  | [], w, _, h => by
    obtain ⟨v, h1, h2⟩ := h w (Keeps.refl _ _)
    exact ⟨v, h1, h2⟩
  | D :: l, w, hd, h => by
    have hD := hd.all D List.mem_cons_self
    refine ⟨by simp, .inl ⟨D, _, rfl, take_run hD, ?_⟩⟩
    have hk : Keeps w (w.putObj D (.deferred none)) (one_ D) := ⟨rfl, rfl, rfl, by simp, fun k _ hn => World.putObj_heap_other hn⟩
    have hnd := List.nodup_cons.1 hd.nodup
    refine leaves_all l _ ⟨hnd.2, fun D' h' => ?_⟩ fun w' hw' => h w' ((hk.mono fun i _ e => by rw [e]; exact List.mem_cons_self).trans hw' fun i _ hi => List.mem_cons_of_mem _ hi)
    rw [World.putObj_heap_other (show D' ≠ D from fun e => hnd.1 (by subst e; exact h'))]
    exact hd.all D' (List.mem_cons_of_mem _ h')
theorem calls_of_vc {P : Program} {k : FuncId} {fn : Func} {c : Code} {args : List Value} {w : World} {R : Ending → World → Prop} (hf : P.funcs[k]? = some fn) (hb : fn.body = some c) (ha : args.length ≤ fn.ntmps)
    (h : Sat P fn.ntmps (endK P fn.ntmps fn.results.toList R) .normal [.code c] (initF args) w) : Calls P k args.toArray w R := by
  refine (callsIn_wide (n := 0)).1 (callsIn_of_wp_marks hf hb trivial ?_)
  rw [init_act ha]
  have h1 := h.h (init_ok ha)
  refine wpIn_mono ((show c.wpX P (LiftE fn.ntmps (after P fn.ntmps [] _)) (act fn.ntmps (initF args)) w from h1) none (.inl rfl)) fun e a w he => ?_
  obtain ⟨g, hg, rfl, hk⟩ := he
  have hk : endK P fn.ntmps fn.results.toList R e g w := hk
  have key : endW P fn.ntmps fn.results.toList R g w → LeavesInM Fence.wide 0 P fn (act fn.ntmps g).tmps R (act fn.ntmps g).defers .returning w := fun hk => by
    obtain ⟨gg, ds⟩ := g
    cases ds with
    | nil =>
      have hk : (resR ⟨gg, .nil⟩ fn.results.toList []).holds P fn.ntmps ⟨gg, .nil⟩ w fun v => R (.returned v) w := hk
      obtain ⟨v, h1, h2⟩ := res_ok hg hk
      exact ⟨v, h1, h2⟩
    | of l =>
      have hk : EndD P fn.ntmps fn.results.toList R l ⟨gg, .of l⟩ w := hk
      exact leaves_all l w hk.d fun w' hw' => res_ok hg (hk.k w' hw')
  cases e with
  | normal => exact key hk
  | ret => exact key hk
  | _ => exact hk.elim
end Go.Vc

namespace Go.Vc
set_option linter.unusedVariables false
open Go Go.Pw
set_option linter.unusedVariables false
theorem Br.yes {b : Bool} {p q : Prop} (h : b = true) (k : p) : Br b p q := ⟨fun _ => k, fun e => by rw [h] at e; cases e⟩
theorem Br.no {b : Bool} {p q : Prop} (h : b = false) (k : q) : Br b p q := ⟨fun e => (by rw [h] at e; cases e), fun _ => k⟩
theorem Br.beq {a b : Int} {p q : Prop} (h : a = b → p) (k : a ≠ b → q) : Br (a == b) p q := ⟨fun e => h (by simpa using e), fun e => k (by simpa using e)⟩
theorem Br.dec_yes {c : Prop} [Decidable c] {p q : Prop} (h : c) (k : p) : Br (decide c) p q := Br.yes (decide_eq_true h) k
theorem Br.dec_no {c : Prop} [Decidable c] {p q : Prop} (h : ¬ c) (k : q) : Br (decide c) p q := Br.no (decide_eq_false h) k
theorem Br.beq_yes {a b : Int} {p q : Prop} (h : a = b) (k : p) : Br (a == b) p q := Br.yes (by simpa using h) k
theorem Br.beq_no {a b : Int} {p q : Prop} (h : ¬ a = b) (k : q) : Br (a == b) p q := Br.no (by simpa using h) k
theorem Br.bne_yes {a b : Int} {p q : Prop} (h : ¬ a = b) (k : p) : Br (a != b) p q := Br.yes (by simpa using h) k
theorem Br.bne_no {a b : Int} {p q : Prop} (h : a = b) (k : q) : Br (a != b) p q := Br.no (by simpa using h) k
theorem Br.tt {p q : Prop} (k : p) : Br true p q := Br.yes rfl k
theorem Br.ff {p q : Prop} (k : q) : Br false p q := Br.no rfl k
theorem Br.not_yes {b : Bool} {p q : Prop} (k : Br b q p) : Br (!b) p q := ⟨fun e => k.f (by simpa using e), fun e => k.t (by simpa using e)⟩
theorem Num.i64 {e : Int} {K : Int → Prop} (h : -9223372036854775808 ≤ e) (h' : e ≤ 9223372036854775807) (k : K e) : Num .i64 e K := ⟨by
  have : IntKind.i64.wrap e = e := by unfold IntKind.wrap; simp [IntKind.signed, IntKind.bits]; omega
  rw [this]; exact k⟩
theorem Num.i32 {e : Int} {K : Int → Prop} (h : -2147483648 ≤ e) (h' : e ≤ 2147483647) (k : K e) : Num .i32 e K := ⟨by
  have : IntKind.i32.wrap e = e := by unfold IntKind.wrap; simp [IntKind.signed, IntKind.bits]; omega
  rw [this]; exact k⟩
theorem Num.u8 {e : Int} {K : Int → Prop} (h : 0 ≤ e) (h' : e ≤ 255) (k : K e) : Num .u8 e K := ⟨by
  have : IntKind.u8.wrap e = e := by unfold IntKind.wrap; simp [IntKind.signed, IntKind.bits]; omega
  rw [this]; exact k⟩
theorem Num.any {k : IntKind} {e : Int} {K : Int → Prop} (h : ∀ x, -9223372036854775808 ≤ x → x ≤ 9223372036854775807 → k = .i64 → K x) (hk : k = .i64) : Num k e K := ⟨by
  subst hk
  have : IntKind.i64.wrap e = (e + 2 ^ 63) % 2 ^ 64 - 2 ^ 63 := by unfold IntKind.wrap; simp [IntKind.signed, IntKind.bits]; omega
  exact h _ (by rw [this]; omega) (by rw [this]; omega) rfl⟩
theorem Idx.nat {j n : Nat} {K : Nat → Prop} (h : j < n) (k : K j) : Idx (j : Int) n K := ⟨j, rfl, h, k⟩
theorem Idx.lit {j n : Nat} {i : Int} {K : Nat → Prop} (e : i = j) (h : j < n) (k : K j) : Idx i n K := ⟨j, e, h, k⟩
theorem Idx.int {n : Nat} {i : Int} {K : Nat → Prop} (h0 : 0 ≤ i) (h : i < n) (k : K i.toNat) : Idx i n K := ⟨i.toNat, by omega, by omega, k⟩
def isAggB (P : Program) (t : TypeId) : Bool := match P.underlying t with | some (.struct _) => true | some (.array _ _) => true | some _ => false | none => true
theorem isAgg_no {P : Program} {t : TypeId} (h : isAggB P t = false) (w : World) : (isAgg t).run P w = .ok false w := by
  unfold isAggB at h
  unfold isAgg
  split at h
  · cases h
  · cases h
  · rename_i d h1 h2 hd
    simp only [Sem.run_bind, und_ok hd, Result.andThen_ok]
    rfl
  · cases h
theorem Load.one {P : Program} {t : TypeId} {a : Addr} {w : World} {v : Value} {K : Value → Prop} (ht : isAggB P t = false) (h : w.cell? a = some v) (k : K v) : Load P t a w K :=
  ⟨v, by unfold loadVar; simp [isAgg_no ht, load, Sem.run, h], k⟩
theorem Held.one {P : Program} {S : World → Prop} {t : TypeId} {a : Addr} {v : Value} {K : Value → Prop} (ht : isAggB P t = false) (h : ∀ w, S w → w.cell? a = some v) (k : K v) : Held P S t a K :=
  ⟨v, fun w hw => by unfold loadVar; simp [isAgg_no ht, load, Sem.run, h w hw], k⟩
def sizeOfT (P : Program) (t : TypeId) : Option Nat := match P.info? t with | some i => some i.size | none => none
theorem Store.one {P : Program} {t : TypeId} {a : Addr} {w : World} {u v : Value} {K : World → Prop} (hs : sizeOfT P t = some 1) (hv : v.cells = #[v] ∧ (∀ cs, v ≠ .agg cs) ∧ ∀ cs, v ≠ .tuple cs) (h : w.cell? a = some u) (hf : w.frozen? a = false) (k : K (w.setCell a v)) : Store P t a v w K := by
  refine ⟨_, ?_, k⟩
  unfold sizeOfT at hs
  split at hs
  · rename_i i hi
    have hs := Option.some.inj hs
    have e : a.add 0 = a := by simp [Addr.add]
    obtain ⟨h1, h2, h3⟩ := hv
    unfold storeVar
    have hsz : (sizeOf t).run P w = .ok 1 w := by rw [size_ok hi, hs]
    simp [hsz, h1, storeCells, store, e]
    cases v <;> first | exact (h2 _ rfl).elim | exact (h3 _ rfl).elim | simp [Sem.run, h, hf]
  · cases hs
theorem CallS.of {P : Program} {g : FuncId} {args : List Value} {w : World} {K : Value → World → Prop} {R : Ending → World → Prop}
    (hr : (callFunc g args.toArray).run P w = .ok (.enter g args.toArray) w) (h : Calls P g args.toArray w R) (k : ∀ e w', R e w' → ∃ v, e = .returned v ∧ K v w') : CallS P g args w K := ⟨.inl ⟨hr, h.mono k⟩⟩
/-- A call of a function that the model runs by itself. -/
theorem CallS.ext {P : Program} {g : FuncId} {args : List Value} {w w' : World} {v : Value} {K : Value → World → Prop} (hr : (callFunc g args.toArray).run P w = .ok (.value v) w') (k : K v w') : CallS P g args w K := ⟨.inr ⟨v, w', hr, k⟩⟩
theorem Cut.to {n len h : Nat} {K : Nat → Nat → Prop} (hh : h ≤ n) (q : K 0 h) : Cut none (some (h : Int)) n len K := ⟨0, h, .inr ⟨rfl, rfl⟩, .inl rfl, by omega, hh, q⟩
theorem Cut.from {n l len : Nat} {K : Nat → Nat → Prop} (hh : l ≤ len) (hn : len ≤ n) (q : K l len) : Cut (some (l : Int)) none n len K := ⟨l, len, .inl rfl, .inr ⟨rfl, rfl⟩, hh, hn, q⟩
theorem Cut.fromI {n len : Nat} {l : Int} {K : Nat → Nat → Prop} (h0 : 0 ≤ l) (hh : l ≤ len) (hn : len ≤ n) (q : K l.toNat len) : Cut (some l) none n len K := ⟨l.toNat, len, .inl (by congr 1; omega), .inr ⟨rfl, rfl⟩, by omega, hn, q⟩
theorem Cut.both {n l h len : Nat} {K : Nat → Nat → Prop} (hl : l ≤ h) (hh : h ≤ n) (q : K l h) : Cut (some (l : Int)) (some (h : Int)) n len K := ⟨l, h, .inl rfl, .inl rfl, hl, hh, q⟩
theorem RunV.of {P : Program} {s : Sem Value} {w w' : World} {v : Value} {K : Value → World → Prop} (h : s.run P w = .ok v w') (k : K v w') : RunV P s w K := ⟨v, w', h, k⟩
theorem RunV.cat {P : Program} {w : World} {a c : ByteArray} {K : Value → World → Prop} (h : a.size + c.size ≤ 9223372036854775807) (k : K (.string (a ++ c)) w) : RunV P (Op.stringOp .add a c) w K := by
  refine ⟨_, w, ?_, k⟩
  have e : ¬ ((a.size + c.size : Nat) : Int) > IntKind.i64.max := by
    have : IntKind.i64.max = 9223372036854775807 := by decide
    rw [this]; omega
  simp only [Op.stringOp]
  rw [if_neg e]
  rfl
end Go.Vc
namespace Go.Vc
set_option linter.unusedVariables false
theorem ret_int {k : IntKind} {a b : Int} (h : a = b) : Ending.returned (.int k a) = .returned (.int k b) := by rw [h]
theorem ret_bool {a b : Bool} (h : a = b) : Ending.returned (.bool a) = .returned (.bool b) := by rw [h]
theorem v_int {k : IntKind} {a b : Int} (h : a = b) : Value.int k a = .int k b := by rw [h]
theorem v_str {a b : ByteArray} (h : a = b) : Value.string a = .string b := by rw [h]
end Go.Vc

namespace Go.Vc
set_option linter.unusedVariables false
open Go Go.Pw
set_option linter.unusedVariables false
theorem isAgg_yes {P : Program} {t : TypeId} (h : isAggB P t = true) (hu : (P.underlying t).isSome = true) (w : World) : (isAgg t).run P w = .ok true w := by
  unfold isAggB at h
  unfold isAgg
  split at h
  · rename_i fs hd; simp only [Sem.run_bind, und_ok hd, Result.andThen_ok]; rfl
  · rename_i n e hd; simp only [Sem.run_bind, und_ok hd, Result.andThen_ok]; rfl
  · cases h
  · rename_i hd; rw [hd] at hu; cases hu
/-- The cells from o on are these. -/
def At (w : World) (b o : Nat) (vs : List Value) : Prop := ∀ i v, vs[i]? = some v → w.cell? ⟨b, o + i, none⟩ = some v
theorem loadCells_at {P : Program} {w : World} {b o : Nat} : ∀ (vs : List Value) (i : Nat) (acc : Array Value), At w b (o + i) vs → (loadCellsFrom ⟨b, o, none⟩ i vs.length acc).run P w = .ok (acc ++ vs.toArray) w
  | [], i, acc, h => by simp [loadCellsFrom]
  | v :: r, i, acc, h => by
    have h0 : w.cell? ⟨b, o + i, none⟩ = some v := by simpa using h 0 v rfl
    have hr : At w b (o + (i + 1)) r := fun j u hj => by
      have := h (j + 1) u (by simpa using hj)
      rw [show o + (i + 1) + j = o + i + (j + 1) by omega]; exact this
    have e := loadCells_at (P := P) r (i + 1) (acc.push v) hr
    simp only [List.length_cons, loadCellsFrom, Sem.run_bind, load, add_none, Sem.run, h0]
    simp only [Result.andThen_ok]
    rw [e]
    simp
theorem Load.agg {P : Program} {t : TypeId} {b o : Nat} {w : World} (vs : List Value) {K : Value → Prop} (ht : isAggB P t = true) (hu : (P.underlying t).isSome = true) (hs : sizeOfT P t = some vs.length) (h : At w b o vs) (k : K (.agg vs.toArray)) : Load P t ⟨b, o, none⟩ w K := by
  refine ⟨_, ?_, k⟩
  unfold sizeOfT at hs
  split at hs
  · rename_i i hi
    have hs := Option.some.inj hs
    have e := loadCells_at (P := P) (w := w) vs 0 #[] (by simpa using h)
    unfold loadVar
    simp [isAgg_yes ht hu, size_ok hi, hs, loadCells, e]
  · cases hs
theorem at_cells {w : World} {b : Nat} {c : Array Value} {T : TypeId} {fr : Nat × Nat} (h : w.heap[b]? = some (.cells c T fr)) : At w b 0 c.toList := fun i v hi => by
  unfold World.cell?
  dsimp only
  rw [h]
  simpa using hi
/-- A value of one cell. -/
def Flat : Value → Prop
  | .agg _ | .tuple _ => False
  | _ => True
theorem setCell_new (w : World) (c : Array Value) (T : TypeId) (i : Nat) (v : Value) : (w.alloc (.cells c T)).setCell ⟨w.heap.size, i, none⟩ v = w.alloc (.cells (c.setIfInBounds i v) T) := by
  unfold World.setCell World.alloc
  congr 1
  apply Array.ext_getElem?
  intro j
  simp only [Array.getElem?_modify, Array.getElem?_push]
  by_cases hj : w.heap.size = j
  · subst hj; simp
  · rw [if_neg hj, if_neg (fun h => hj h.symm), if_neg (fun h => hj h.symm)]
theorem store_new {P : Program} {w : World} {T : TypeId} : ∀ (vs : List Value) (i : Nat) (c : Array Value), (∀ v ∈ vs, Flat v) → i + vs.length ≤ c.size →
    (storeCells ⟨w.heap.size, 0, none⟩ vs i).run P (w.alloc (.cells c T)) = .ok () (w.alloc (.cells (vs.zipIdx.foldl (fun cs p => cs.setIfInBounds (i + p.2) p.1) c) T))
  | [], i, c, _, _ => by simp [storeCells]
  | v :: r, i, c, hf, hl => by
    have hl' : i + r.length + 1 ≤ c.size := by simpa [Nat.add_assoc] using hl
    have hc : (w.alloc (.cells c T)).cell? ⟨w.heap.size, i, none⟩ = some (c[i]'(by omega)) := by
      rw [World.cell?_alloc_new]; exact Array.getElem?_eq_getElem (by omega)
    have hfr : (w.alloc (.cells c T)).frozen? ⟨w.heap.size, i, none⟩ = false := World.frozen?_alloc_new _ _ _ _
    have hv : Flat v := hf v (by simp)
    have e := store_new (P := P) (w := w) (T := T) r (i + 1) (c.setIfInBounds i v) (fun u hu => hf u (by simp [hu])) (by simp; omega)
    have hz : (v :: r).zipIdx.foldl (fun cs p => cs.setIfInBounds (i + p.2) p.1) c = r.zipIdx.foldl (fun cs p => cs.setIfInBounds (i + 1 + p.2) p.1) (c.setIfInBounds i v) := by
      rw [List.zipIdx_cons, List.foldl_cons]
      have : r.zipIdx (0 + 1) = r.zipIdx.map (fun p => (p.1, p.2 + 1)) := by
        rw [List.zipIdx_succ]
      rw [this, List.foldl_map]
      congr 1
      funext cs p; rw [show i + (p.2 + 1) = i + 1 + p.2 by omega]
    rw [hz, ← e, ← setCell_new]
    simp only [storeCells, add_none, Nat.zero_add, Sem.run_bind, store]
    cases v <;> first | exact hv.elim | simp [Sem.run, hc, hfr]
theorem fold_set (vs : List Value) : ∀ (c : Array Value), vs.length = c.size → vs.zipIdx.foldl (fun cs p => cs.setIfInBounds (0 + p.2) p.1) c = vs.toArray := by
  have key : ∀ (vs : List Value) (k : Nat) (c : Array Value), k + vs.length = c.size → (vs.zipIdx k).foldl (fun cs p => cs.setIfInBounds (0 + p.2) p.1) c = (c.toList.take k ++ vs).toArray := by
    intro vs
    induction vs with
    | nil =>
      intro k c h
      apply Array.ext'
      simp only [List.zipIdx_nil, List.foldl_nil, List.append_nil]
      rw [List.take_of_length_le]; simp at h ⊢; omega
    | cons v r ih =>
      intro k c h
      rw [List.zipIdx_cons, List.foldl_cons, ih (k + 1) _ (by simp at h ⊢; omega)]
      congr 1
      simp only [Nat.zero_add, Array.toList_setIfInBounds]
      have hk : k < c.toList.length := by simp at h ⊢; omega
      rw [List.take_succ_eq_append_getElem (by simpa using hk), List.getElem_set_self, List.take_set_of_le (Nat.le_refl _)]
      simp
  intro c h
  simpa using key vs 0 c (by simpa using h)
/-- A struct stored into a variable just made. -/
theorem Store.fresh {P : Program} {t T : TypeId} {w : World} {c : Array Value} {vs : List Value} {K : World → Prop} (hs : sizeOfT P t = some vs.length) (hc : c.size = vs.length) (hf : ∀ v ∈ vs, Flat v) (k : K (w.alloc (.cells vs.toArray T))) :
    Store P t ⟨w.heap.size, 0, none⟩ (.agg vs.toArray) (w.alloc (.cells c T)) K := by
  refine ⟨_, ?_, k⟩
  unfold sizeOfT at hs
  split at hs
  · rename_i i hi
    have hs := Option.some.inj hs
    unfold storeVar
    have e := store_new (P := P) (w := w) (T := T) vs 0 c hf (by omega)
    rw [fold_set vs c hc.symm] at e
    simp [size_ok hi, hs, Value.cells, e]
  · cases hs
end Go.Vc

namespace Go.Vc
set_option linter.unusedVariables false
open Go Go.Pw
set_option linter.unusedVariables false
end Go.Vc

namespace Go.Vc
set_option linter.unusedVariables false
open Go Go.Pw
set_option linter.unusedVariables false
def setCells (b : Nat) : List Value → Nat → World → World
  | [], _, w => w
  | v :: r, i, w => setCells b r (i + 1) (w.setCell ⟨b, i, none⟩ v)
theorem store_cells {P : Program} {b o : Nat} : ∀ (vs : List Value) (i : Nat) (w : World), (∀ v ∈ vs, Flat v) → (∀ j, j < vs.length → ∃ u, w.cell? ⟨b, o + i + j, none⟩ = some u) → (∀ j, w.frozen? ⟨b, j, none⟩ = false) →
    (storeCells ⟨b, o, none⟩ vs i).run P w = .ok () (setCells b vs (o + i) w)
  | [], i, w, _, _, _ => by simp [storeCells, setCells]
  | v :: r, i, w, hf, hc, hz => by
    obtain ⟨u, hu⟩ := hc 0 (by simp)
    have hv : Flat v := hf v (by simp)
    have hu : w.cell? ⟨b, o + i, none⟩ = some u := hu
    have e := store_cells (P := P) (o := o) r (i + 1) (w.setCell ⟨b, o + i, none⟩ v) (fun x hx => hf x (by simp [hx])) (fun j hj => by
      obtain ⟨u', hu'⟩ := hc (j + 1) (by simp; omega)
      have : (⟨b, o + i, none⟩ : Addr) ≠ ⟨b, o + (i + 1) + j, none⟩ := fun e => by injection e; omega
      exact ⟨u', by rw [World.cell?_setCell_other (h := this), show o + (i + 1) + j = o + i + (j + 1) by omega]; exact hu'⟩) (fun j => by rw [World.frozen?_setCell]; exact hz j)
    show (storeCells ⟨b, o, none⟩ (v :: r) i).run P w = .ok () (setCells b r (o + i + 1) (w.setCell ⟨b, o + i, none⟩ v))
    rw [show o + i + 1 = o + (i + 1) by omega, ← e]
    simp only [storeCells, add_none, Sem.run_bind, store]
    cases v <;> first | exact hv.elim | simp [Sem.run, hu, hz]
/-- A struct stored over cells that are there. -/
theorem Store.agg {P : Program} {t : TypeId} {w : World} {b o : Nat} (vs : List Value) {K : World → Prop} (hs : sizeOfT P t = some vs.length) (hf : ∀ v ∈ vs, Flat v) (hc : ∀ j, j < vs.length → ∃ u, w.cell? ⟨b, o + j, none⟩ = some u) (hz : ∀ j, w.frozen? ⟨b, j, none⟩ = false)
    (k : K (setCells b vs o w)) : Store P t ⟨b, o, none⟩ (.agg vs.toArray) w K := by
  refine ⟨_, ?_, k⟩
  unfold sizeOfT at hs
  split at hs
  · rename_i i hi
    have hs := Option.some.inj hs
    have e := store_cells (P := P) (b := b) (o := o) vs 0 w hf (by simpa using hc) hz
    unfold storeVar
    simp [size_ok hi, hs, Value.cells, e]
  · cases hs
/-- append, to a row of the call's own. -/
theorem RunN.append {P : Program} {w : World} {K : Value → World → Prop} {t ty : TypeId} {cs : Array Bool} (base e : Nat) (i : TypeInfo) (z : Value) (size bytes : Nat) (ht : P.underlying t = some (.slice e)) (hi : P.info? e = some i) (hz : i.zero = some z)
    (hsize : i.size = size) (hby : i.bytes = bytes) (hzs : z.cells.size = size) (hsz : 0 < size) (v : Value) (n : Nat) (xs : List Value) (hown : w.ownsRow base e size v n xs)
    (a : Addr) (m c : Nat) (news : List Value) (hl : news.length = m * size) (hnews : ∀ j u, news[j]? = some u → w.cell? (a.add j) = some u) (h1 : ∀ u ∈ news, u.oneCell' = true)
    (h63 : n + m ≤ maxLen) (hbytes : (n + m) * bytes ≤ 140737488355328) (hbase : base ≤ w.heap.size)
    (k : ∀ v' w', w'.ownsRow base e size v' (n + m) (xs ++ news) → w.grownBy w' v.ownBlock → (v' = .slice none 0 0 ↔ v = .slice none 0 0 ∧ m = 0) → K v' w') : RunN P (builtin .append #[t, t] ty cs [v, .slice (some a) m c].toArray) w K := by
  obtain ⟨v', w', h1', h2, h3, h4⟩ := run_append_own (P := P) w base t ty e i z size bytes ht hi hz hsize hby hzs hsz v n xs hown a m c news hl hnews h1 h63 hbytes hbase
  refine ⟨v', w', ?_, k v' w' h2 h3 h4⟩
  show (do pure (Next.value (← Builtin.append_ #[t, t] ty #[v, .slice (some a) m c])) : Sem Next).run P w = _
  simp [h1']
end Go.Vc
