/- Helper text of this claim: Wc5: lemmas and contracts that the proved statement rests on; no conditions of its own. -/
import Derived.Test.YtmipmlcolaaonaaDoorWc4
namespace Go.Vc
open Go Go.Pw
set_option linter.unusedVariables false
/-! ### Loops: the slots that matter, by name -/
def setL : List (Nat × Value) → Fr → Fr
  | [], g => g
  | (i, v) :: r, g => upd (setL r g) i v
def Agree (f : Fr) : List (Nat × Value) → Prop
  | [] => True
  | (i, v) :: r => f i = v ∧ Agree f r
theorem setL_of {f : Fr} : ∀ {l : List (Nat × Value)}, Agree f l → setL l f = f
  | [], _ => rfl
  | (i, v) :: r, ⟨h, hr⟩ => by
    funext j
    simp only [setL, setL_of hr]
    by_cases e : j = i
    · subst e; rw [upd_same, h]
    · rw [upd_ne _ _ e]
theorem wp_loop_g {P : Program} {Q : Exit → Act → World → Prop} {a : Act} {w : World} {c : Code} {ι : Type} (I : ι → Act → World → Prop) (μ : ι → Nat) (i₀ : ι) (h₀ : I i₀ a w)
    (round : ∀ i a w, I i a w → c.wp P (Exit.then (fun a' w' => ∃ j, I j a' w' ∧ μ j < μ i) Q) a w) : (Code.loop c).wp P Q a w := by
  intro b k cs
  have key : ∀ m i a w, μ i = m → I i a w → ∃ e a' w', Q e a' w' ∧ Arrives P (lone (b.at a (.code c :: .inLoop c :: k)) cs w) b k cs e a' w' := by
    intro m
    induction m using Nat.strongRecOn with
    | _ m ih =>
      intro i a w hn hI
      obtain ⟨e, a₁, w₁, hq, harr⟩ := round i a w hI b (.inLoop c :: k) cs
      cases e with
      | normal =>
        obtain ⟨j, hI₁, hlt⟩ := hq
        obtain ⟨e₂, a₂, w₂, hq₂, harr₂⟩ := ih (μ j) (hn ▸ hlt) j a₁ w₁ rfl hI₁
        exact ⟨e₂, a₂, w₂, hq₂, .of_steps (Steps.trans harr (.one step_inLoop)) harr₂⟩
      | outgrown => exact ⟨_, a₁, w₁, hq, .pass (x := .inLoop c) rfl (fun _ _ => .inl (by simp)) harr⟩
      | _ => exact ⟨_, a₁, w₁, hq, .pass (x := .inLoop c) rfl (fun _ _ => .inl (by simp)) harr⟩
  obtain ⟨e, a', w', hq, harr⟩ := key _ i₀ a w rfl h₀
  exact ⟨e, a', w', hq, .of_steps (.one step_loop) harr⟩
/-- What a round must come to. -/
def roundK {ι : Type} (P : Program) (n : Nat) (slots : ι → List (Nat × Value)) (I : ι → World → Prop) (μ : ι → Nat) (i : ι) (K : Exit → Fr → World → Prop) (t : List It) : Exit → Fr → World → Prop
  | .normal, g, w => Ret (∃ j, Agree g (slots j) ∧ I j w ∧ μ j < μ i)
  | .exit i, g, w => Sat P n K (.exit i) t g w
  | .goto l, g, w => Sat P n K (.goto l) t g w
  | .ret, g, w => Sat P n K .ret t g w
  | .panic ch, g, w => Sat P n K (.panic ch) t g w
  | .outgrown, g, w => Sat P n K .outgrown t g w
theorem Loop.intro {P : Program} {n : Nat} {c : Code} {t : List It} {K : Exit → Fr → World → Prop} {f : Fr} {w : World} {ι : Type} (slots : ι → List (Nat × Value)) (I : ι → World → Prop) (μ : ι → Nat) (i₀ : ι)
    (h₀ : Agree f (slots i₀)) (hI : I i₀ w) (round : ∀ i g w, I i w → Sat P n (roundK P n slots I μ i K t) .normal [.code c] (setL (slots i) g) w) : Loop P n K c t f w := by
  refine ⟨fun hf => wp_loop_g (fun i a w => ∃ g, Ok n g ∧ a = act n g ∧ Agree g (slots i) ∧ I i w) μ i₀ ⟨f, hf, rfl, h₀, hI⟩ ?_⟩
  rintro i a w ⟨g, hg, rfl, hag, hI⟩
  have hr := round i g w hI
  rw [setL_of hag] at hr
  have hr := hr.h hg
  refine wp_mono (show c.wp P (LiftE n (after P n [] _)) (act n g) w from hr) fun e a' w' he => ?_
  obtain ⟨g', hg', rfl, hk⟩ := he
  have hk : roundK P n slots I μ i K t e g' w' := hk
  cases e with
  | normal =>
    obtain ⟨j, h1, h2, h3⟩ := Ret.h hk
    exact ⟨j, ⟨g', hg', rfl, h1, h2⟩, h3⟩
  | _ => exact ⟨g', hg', rfl, Sat.h hk hg'⟩

/-! ### The whole function -/
def retV : List Value → Value
  | [v] => v
  | l => .tuple l.toArray
def initF : List Value → Fr
  | [], _ => undef
  | v :: _, 0 => v
  | _ :: r, j + 1 => initF r j
theorem initF_get : ∀ (l : List Value) (j : Nat), initF l j = l.getD j undef
  | [], j => by cases j <;> rfl
  | v :: r, 0 => rfl
  | v :: r, j + 1 => by simp only [initF, initF_get r j]; rfl
theorem init_act {n : Nat} {args : List Value} (h : args.length ≤ n) : args.toArray ++ Array.replicate (n - args.toArray.size) undef = frArr n (initF args) := by
  apply Array.ext'
  simp only [frArr, Array.toList_append, Array.toList_replicate, List.size_toArray]
  apply List.ext_getElem?
  intro j
  rw [List.getElem?_append, List.getElem?_map]
  by_cases hj : j < args.length
  · rw [if_pos hj, List.getElem?_range (by omega), Option.map_some, initF_get, List.getD_eq_getElem?_getD, List.getElem?_eq_getElem hj]; rfl
  · rw [if_neg hj]
    by_cases hn : j < n
    · rw [List.getElem?_range hn, Option.map_some, initF_get, List.getElem?_replicate, if_pos (by omega), List.getD_eq_getElem?_getD, List.getElem?_eq_none (l := args) (by omega)]; rfl
    · rw [List.getElem?_eq_none (by simp; omega), List.getElem?_eq_none (by simp; omega)]; rfl
theorem init_ok {n : Nat} {args : List Value} (h : args.length ≤ n) : Ok n (initF args) := fun j hj => by
  rw [initF_get, List.getD_eq_getElem?_getD, List.getElem?_eq_none (by omega)]; rfl

inductive RS where
  | val (v : Value)
  | load (t : TypeId) (a : Addr) (acc : List Value) (rest : List ResultVar)
  | bad
/-- The results, as far as they stand in slots. -/
def resR (f : Fr) : List ResultVar → List Value → RS
  | [], acc => (match acc with
      | [] => .val (.tuple #[])
      | [v] => .val v
      | [a, b] => .val (.tuple #[a, b])
      | [a, b, c] => .val (.tuple #[a, b, c])
      | l => .val (.tuple l.toArray))
  | .tmp t :: r, acc => force (f t) fun v => (match acc with
      | [] => resR f r [v]
      | [a] => resR f r [a, v]
      | [a, b] => resR f r [a, b, v]
      | acc => resR f r (acc ++ [v]))
  | .cell a t :: r, acc => (match f a with
      | .pointer (some ⟨b, o, s⟩) => .load t ⟨b, o, s⟩ acc r
      | _ => .bad)
def resM (tmps : Array Value) : ResultVar → Sem Value
  | .tmp t => pure (tmps.getD t undef)
  | .cell a t => do loadVar t (← asAddr (tmps.getD a undef))
structure ResK (P : Program) (n : Nat) (f : Fr) (w : World) (rs : List ResultVar) (acc : List Value) (R : Value → Prop) : Prop where
  h : Ok n f → ∃ vs, (rs.mapM (resM (frArr n f))).run P w = .ok vs w ∧ R (retV (acc ++ vs))
def RS.holds (P : Program) (n : Nat) (f : Fr) (w : World) (R : Value → Prop) : RS → Prop
  | .val v => Ret (R v)
  | .load t a acc rest => Load P t a w fun v => ResK P n f w rest (acc ++ [v]) R
  | .bad => False
theorem resR_ok {P : Program} {n : Nat} {f : Fr} (hf : Ok n f) {w : World} {R : Value → Prop} : ∀ (rs : List ResultVar) (acc : List Value), (resR f rs acc).holds P n f w R →
    ∃ vs, (rs.mapM (resM (frArr n f))).run P w = .ok vs w ∧ R (retV (acc ++ vs))
  | [], acc, h => ⟨[], rfl, by
      rw [List.append_nil]
      match acc, h with
      | [], h => exact Ret.h h
      | [v], h => exact Ret.h h
      | [a, b], h => exact Ret.h h
      | [a, b, c], h => exact Ret.h h
      | a :: b :: c :: d :: l, h => exact Ret.h h⟩
  | .tmp t :: r, acc, h => by
    have h : (resR f r (acc ++ [f t])).holds P n f w R := by
      simp only [resR, force_eq] at h
      split at h <;> exact h
    obtain ⟨vs, h1, h2⟩ := resR_ok hf r _ h
    refine ⟨f t :: vs, ?_, by simpa using h2⟩
    simp [List.mapM_cons, resM, frArr_getD hf, h1]
  | .cell a t :: r, acc, h => by
    simp only [resR] at h
    split at h
    · rename_i b o s he
      have h : Load P t ⟨b, o, s⟩ w fun v => ResK P n f w r (acc ++ [v]) R := h
      obtain ⟨v, h1, h2⟩ := h.h
      obtain ⟨vs, h3, h4⟩ := h2.h hf
      refine ⟨v :: vs, ?_, by simpa using h4⟩
      simp [List.mapM_cons, resM, frArr_getD hf, he, asAddr, h1, h3]
    · exact h.elim
theorem ResK.go {P : Program} {n : Nat} {f : Fr} {w : World} {rs : List ResultVar} {acc : List Value} {R : Value → Prop} (h : (resR f rs acc).holds P n f w R) : ResK P n f w rs acc R := ⟨fun hf => resR_ok hf rs acc h⟩
theorem results_eq (fn : Func) (tmps : Array Value) : results fn tmps = (do let vs ← fn.results.mapM (resM tmps); pure (if h : vs.size = 1 then vs[0] else .tuple vs)) := by
  have : (fun | .tmp t => pure (tmps.getD t undef) | .cell a t => do loadVar t (← asAddr (tmps.getD a undef)) : ResultVar → Sem Value) = resM tmps := by
    funext r; cases r <;> rfl
  unfold results
  rw [← this]
  rfl
theorem retV_eq (vs : List Value) : (if h : vs.toArray.size = 1 then vs.toArray[0] else .tuple vs.toArray : Value) = retV vs := by
  match vs with
  | [] => rfl
  | [v] => rfl
  | a :: b :: r => rfl
theorem res_ok {P : Program} {n : Nat} {f : Fr} (hf : Ok n f) {w : World} {fn : Func} {K : Value → Prop} (h : (resR f fn.results.toList []).holds P n f w K) :
    ∃ v, (results fn (frArr n f)).run P w = .ok v w ∧ K v := by
  obtain ⟨vs, h1, h2⟩ := resR_ok hf _ _ h
  refine ⟨retV vs, ?_, by simpa using h2⟩
  rw [results_eq]
  have : fn.results.mapM (resM (frArr n f)) = List.toArray <$> fn.results.toList.mapM (resM (frArr n f)) := by
    rw [Array.mapM_eq_mapM_toList]
  rw [this]
  simp only [Sem.run_bind, Sem.run_map, h1, Result.andThen_ok, Sem.run_pure, retV_eq]
def endK (P : Program) (n : Nat) (rs : List ResultVar) (R : Ending → World → Prop) : Exit → Fr → World → Prop
  | .normal, f, w => (resR f rs []).holds P n f w fun v => R (.returned v) w
  | .ret, f, w => (resR f rs []).holds P n f w fun v => R (.returned v) w
  | _, _, _ => False
theorem calls_of_vc {P : Program} {k : FuncId} {fn : Func} {c : Code} {args : List Value} {w : World} {R : Ending → World → Prop} (hf : P.funcs[k]? = some fn) (hb : fn.body = some c) (ha : args.length ≤ fn.ntmps)
    (h : Sat P fn.ntmps (endK P fn.ntmps fn.results.toList R) .normal [.code c] (initF args) w) : Calls P k args.toArray w R := by
  refine calls_of_wp hf hb ?_
  rw [init_act ha]
  have h1 := h.h (init_ok ha)
  refine wp_mono (show c.wp P (LiftE fn.ntmps (after P fn.ntmps [] _)) (act fn.ntmps (initF args)) w from h1) fun e a w he => ?_
  obtain ⟨g, hg, rfl, hk⟩ := he
  have hk : endK P fn.ntmps fn.results.toList R e g w := hk
  cases e with
  | normal => obtain ⟨v, h1, h2⟩ := res_ok hg hk; exact ⟨rfl, v, h1, h2⟩
  | ret => obtain ⟨v, h1, h2⟩ := res_ok hg hk; exact ⟨rfl, v, h1, h2⟩
  | _ => exact hk.elim
end Go.Vc
