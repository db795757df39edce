/- Helper lemmas that the proved statement rests on; no conditions of their own. -/
import Derived.Test.YtennokckmjcefaaGreatDoorGAg5
set_option linter.unusedVariables false
set_option maxHeartbeats 8000000
set_option maxRecDepth 100000
namespace Go.Vc
open Go Go.Pw Go.RowKit
def putPs : List Tmp → List Value → Fr → Fr
 | p :: ps, v :: vs, f => putPs ps vs (upd f p v)
 | _, _, f => f
theorem zke {n : Nat} : ∀ (ps : List Tmp) (vs : List Value) (f : Fr), Ok n f → (ps.all fun p => Nat.ble (p + 1) n) = true → Ok n (putPs ps vs f) ∧
  (ps.zip vs).foldl (fun tmps (x : Tmp × Value) => tmps.setIfInBounds x.1 x.2) (frArr n f) = frArr n (putPs ps vs f)
 | [], _, f, hf, _ => ⟨hf, rfl⟩
 | _ :: _, [], f, hf, _ => ⟨hf, rfl⟩
 | p :: ps, v :: vs, f, hf, h => by
  simp only [List.all_cons, Bool.and_eq_true] at h
  have hp : p < n := Nat.le_of_ble_eq_true h.1
  obtain ⟨h1, h2⟩ := zke ps vs (upd f p v) (zqW hf hp v) h.2
  refine ⟨h1, ?_⟩
  simp only [List.zip_cons_cons, List.foldl_cons, putPs, zhL hp v]
  exact h2
structure Rec2 (D : Nat) (w w' : World) : Prop where
 d : w'.heap[D]? = w.heap[D]?
 l : w'.heap[D + 1]? = w.heap[D + 1]?
theorem Rec2.of {D : Nat} {w w' : World} {c : Nat → Prop} (k : Kp w w' c) (h : D + 1 < w.heap.size) (h0 : ¬ c D) (h1 : ¬ c (D + 1)) : Rec2 D w w' := ⟨k.block _ (by omega) h0, k.block _ h h1⟩
def rangeK {α : Type} (D : Nat) (I : List α → World → Prop) (Ix : Code → List α → World → Prop) (xs : List α) (W : World) : Exit → Fr → World → Prop
 | .normal, _, W' => Ret (Rec2 D W W' ∧ I xs W')
 | .ret, _, W' => Ret (Rec2 D W W' ∧ Ix .ret xs W')
 | .exit id, _, W' => Ret (Rec2 D W W' ∧ Ix (.exit id) xs W')
 | _, _, _ => False
structure Body (p : Prop) : Prop where
 h : p
def asgK {α : Type} (P : Program) (n : Nat) (D : Nat) (I : List α → World → Prop) (Ix : Code → List α → World → Prop) (xs : List α) (W : World) (body : Code) : Exit → Fr → World → Prop
 | .normal, g, W1 => Body (Rec2 D W W1 ∧ ∀ W2, Kp W1 W2 (one_ (D + 1)) → W2.heap.size = W1.heap.size → Sat P n (rangeK D I Ix xs W2) .normal [.code body] g W2)
 | _, _, _ => False
theorem zba (w : World) (r : Nat) (o : Obj) : (w.putObj r o).heap.size = w.heap.size := by simp [World.putObj]
theorem zay (w : World) (r : Nat) (o : Obj) : Kp w (w.putObj r o) (one_ r) := ⟨rfl, rfl, rfl, by rw [zba]; exact Nat.le_refl _, fun k _ hn => World.putObj_heap_other hn⟩
section
variable {P : Program} {n : Nat} {K : Exit → Fr → World → Prop} {ps : Array Tmp} {assign body : Code} {t : List It} {g : Operand} {fg : Nat → Value} {dl : DL} {w : World} {gf : Nat} {lb : Array Value} {α : Type}
theorem zgT {D fn : Nat} {rec : Go.Loop} {W : World} {vs : List Value} {I : List α → World → Prop} {Ix : Code → List α → World → Prop} {xs : List α} {R : Value → World → Prop} (hf : Ok n ⟨fg, dl⟩)
  (hr : rec = { state := .ready, pending := none, fn := fn, tmps := frArr n ⟨fg, dl⟩, params := ps, assign := assign, body := body, defers := D })
  (hl : W.heap[D + 1]? = some (.loop rec)) (hvs : vs.length = ps.size) (hps : (ps.toList.all fun p => Nat.ble (p + 1) n) = true) (hpa : plainC assign = true) (hpb : plainC body = true)
  (round : Sat P n (asgK P n D I Ix xs W body) .normal [.code assign] (putPs ps.toList vs ⟨fg, .nil⟩) W)
  (k1 : ∀ W3 W4, W3.heap[D + 1]? = some (.loop { rec with state := .busy }) → W3.heap[D]? = W.heap[D]? → I xs W3 → W4 = W3.putObj (D + 1) (.loop rec) → R (.bool true) W4)
  (k2 : ∀ c W3 W4, W3.heap[D + 1]? = some (.loop { rec with state := .busy }) → W3.heap[D]? = W.heap[D]? → Ix c xs W3 → W4 = W3.putObj (D + 1) (.loop { rec with state := .done, pending := some c }) → R (.bool false) W4) :
  YieldS P (D + 1) vs W R := by
 have hfr : rec.fn = fn ∧ rec.tmps = frArr n ⟨fg, dl⟩ ∧ rec.params = ps ∧ rec.assign = assign ∧ rec.body = body ∧ rec.state = .ready ∧ rec.pending = none := by subst hr; exact ⟨rfl, rfl, rfl, rfl, rfl, rfl, rfl⟩
 obtain ⟨e1, e2, e3, e4, e5, e6, e7⟩ := hfr
 have hy := run_yield (P := P) (args := vs.toArray) hl (by rw [e3]; simpa using hvs)
 rw [e1, e2, e3, e4, e5] at hy
 obtain ⟨hg0, hz⟩ := zke ps.toList vs ⟨fg, dl⟩ hf hps
 have hz' : (ps.zip vs.toArray).foldl (fun tmps (x : Tmp × Value) => tmps.setIfInBounds x.1 x.2) (frArr n ⟨fg, dl⟩) = frArr n (putPs ps.toList vs ⟨fg, dl⟩) := by
  rw [← hz]
  obtain ⟨pl⟩ := ps
  simp [← List.foldl_toArray', List.zip_toArray]
 have hsame : ∀ (pl : List Tmp) (vs : List Value) (a : Nat → Value) (d d' : DL), (putPs pl vs ⟨a, d⟩).g = (putPs pl vs ⟨a, d'⟩).g ∧ (putPs pl vs ⟨a, d⟩).ds = d := by
  intro pl
  induction pl with
  | nil => intro vs a d d'; exact ⟨rfl, rfl⟩
  | cons p pl ih =>
   intro vs a d d'
   cases vs with
   | nil => exact ⟨rfl, rfl⟩
   | cons v vs => exact ih vs _ d d'
 have hact : act n (putPs ps.toList vs ⟨fg, .nil⟩) = { tmps := frArr n (putPs ps.toList vs ⟨fg, dl⟩), defers := [] } := by
  obtain ⟨h1, h2⟩ := hsame ps.toList vs fg .nil dl
  simp only [act, frArr, h1, h2]; rfl
 refine ⟨fn, _, assign, body, hy, ?_⟩
 refine roundIn_of_wpIn trivial ?_
 have hz'' : (ps.zip vs.toArray).foldl (fun tmps (x : Tmp × Value) => match x with | (t, a) => tmps.setIfInBounds t a) (frArr n ⟨fg, dl⟩) = frArr n (putPs ps.toList vs ⟨fg, dl⟩) := hz'
 rw [hz'', ← hact]
 have hok : Ok n (putPs ps.toList vs ⟨fg, .nil⟩) := by
  intro j hj
  rw [(hsame ps.toList vs fg .nil dl).1]; exact hg0 j hj
 have h1 := (show assign.wpX P (LiftE n (after P n [] (asgK P n D I Ix xs W body))) (act n (putPs ps.toList vs ⟨fg, .nil⟩)) W from round.h hok) (some (D + 1)) (.inr hpa)
 refine wpIn_mono h1 fun e a W1 he => ?_
 obtain ⟨g', hg', rfl, hk⟩ := he
 have hk : asgK P n D I Ix xs W body e g' W1 := hk
 cases e with
 | normal =>
  obtain ⟨hrec, hbody⟩ := Body.h hk
  have hl1 : W1.heap[D + 1]? = some (.loop rec) := hrec.l.trans hl
  refine ⟨_, run_beginRound hl1 e6, ?_⟩
  have hlt : D + 1 < W1.heap.size := (Array.getElem?_eq_some_iff.1 hl1).1
  have hl2 : (W1.putObj (D + 1) (.loop { rec with state := .busy })).heap[D + 1]? = some (.loop { rec with state := .busy }) := World.putObj_heap_same hlt
  have hd2 : (W1.putObj (D + 1) (.loop { rec with state := .busy })).heap[D]? = W.heap[D]? := (World.putObj_heap_other (by omega)).trans hrec.d
  have hb := hbody (W1.putObj (D + 1) (.loop { rec with state := .busy })) (zay _ _ _) (zba _ _ _)
  refine wpIn_mono ((show body.wpX P (LiftE n (after P n [] (rangeK D I Ix xs _))) (act n g') _ from hb.h hg') (some (D + 1)) (.inr hpb)) fun e a W3 he => ?_
  obtain ⟨g3, hg3, rfl, hk3⟩ := he
  have hk3 : rangeK D I Ix xs _ e g3 W3 := hk3
  have fin : ∀ (j : Option Code), Rec2 D (W1.putObj (D + 1) (.loop { rec with state := .busy })) W3 →
    W3.heap[D + 1]? = some (.loop { rec with state := .busy }) ∧ W3.heap[D]? = W.heap[D]? ∧
    (Instr.endRound (D + 1) j).run P W3 = .ok (.bool j.isNone) (W3.putObj (D + 1) (.loop { rec with state := if j.isNone then .ready else .done, pending := j })) := fun j hr2 => by
   have h3 := hr2.l.trans hl2
   exact ⟨h3, hr2.d.trans hd2, run_endRound (r := { rec with state := .busy }) j h3⟩
  cases e with
  | normal =>
   obtain ⟨hr2, hI⟩ := Ret.h hk3
   obtain ⟨h3, h4, h5⟩ := fin none hr2
   refine ⟨_, _, h5, _, rfl, k1 W3 _ h3 h4 hI ?_⟩
   congr 2
   subst hr; rfl
  | ret =>
   obtain ⟨hr2, hI⟩ := Ret.h hk3
   obtain ⟨h3, h4, h5⟩ := fin (some .ret) hr2
   exact ⟨_, _, h5, _, rfl, k2 _ W3 _ h3 h4 hI rfl⟩
  | exit id =>
   obtain ⟨hr2, hI⟩ := Ret.h hk3
   obtain ⟨h3, h4, h5⟩ := fin (some (.exit id)) hr2
   exact ⟨_, _, h5, _, rfl, k2 _ W3 _ h3 h4 hI rfl⟩
  | goto id => exact hk3.elim
  | panic ch => exact hk3.elim
  | outgrown => exact hk3.elim
 | _ => exact hk.elim
theorem Range.intro (enc : α → List Value) (hg : ev ⟨fg, dl⟩ g = .func (.func gf) #[] lb) (hgf : ∀ args w, (callFunc gf args).run P w = .ok (.enter gf args) w)
  (hpa : plainC assign = true) (hpb : plainC body = true) (hps : (ps.toList.all fun p => Nat.ble (p + 1) n) = true) (hen : ∀ x, (enc x).length = ps.size)
  (cI : Nat → Prop) (hcI : ∀ b, cI b → b < w.heap.size) (I : List α → World → Prop) (Ix : Code → List α → World → Prop) (S : List α → Prop) (Nx : List α → α → Prop)
  (hI : ∀ pre W W', I pre W → w.heap.size + 2 ≤ W.heap.size → Kp W W' (fun b => cI b ∨ b = w.heap.size + 1) → I pre W')
  (hIx : ∀ c pre W W', Ix c pre W → w.heap.size + 2 ≤ W.heap.size → Kp W W' (fun b => cI b ∨ b = w.heap.size + 1) → Ix c pre W')
  (h0 : ∀ W, Kp w W n_ → W.heap.size = w.heap.size + 2 → I [] W)
  (iter : ∀ J Jx : List α → World → Prop, (∀ pre W, J pre W → I pre W ∧ w.heap.size + 2 ≤ W.heap.size) → (∀ pre W W', J pre W → Kp W W' cI → J pre W') → (∀ pre W W', Jx pre W → Kp W W' cI → Jx pre W') →
   (∀ pre x W, J pre W → Nx pre x → YieldS P (w.heap.size + 1) (enc x) W fun v W' => (v = .bool true ∧ J (pre ++ [x]) W') ∨ (v = .bool false ∧ Jx (pre ++ [x]) W')) →
   ∀ W, J [] W → Calls P gf (#[.func (.yield (w.heap.size + 1)) #[] #[]] ++ lb) W fun e W' => (∃ v, e = .returned v) ∧ ((∃ xs, S xs ∧ J xs W') ∨ ∃ pre, Jx pre W'))
  (round : ∀ pre x W, I pre W → Nx pre x → w.heap.size + 2 ≤ W.heap.size → Sat P n (asgK P n w.heap.size I Ix (pre ++ [x]) W body) .normal [.code assign] (putPs ps.toList (enc x) ⟨fg, .nil⟩) W)
  (done : ∀ xs W, S xs → I xs W → w.heap.size + 2 ≤ W.heap.size → W.heap[w.heap.size]? = some (.deferred (some [])) → Sat P n K .normal t ⟨fg, .of (w.heap.size :: dl.toL)⟩ W)
  (stop : ∀ c pre W, Ix c pre W → w.heap.size + 2 ≤ W.heap.size → W.heap[w.heap.size]? = some (.deferred (some [])) → Sat P n K .normal (.code c :: t) ⟨fg, .of (w.heap.size :: dl.toL)⟩ W) :
  Range P n K g ps assign body t ⟨fg, dl⟩ w := by
 refine ⟨fun hf r hr => ?_⟩
 obtain rfl : r = none := by
  rcases hr with h | h
  ·exact h
  ·cases h
 refine wpIn_rangeFunc ?_
 intro fn _
 generalize hD : w.heap.size = D at *
 obtain ⟨rec, hrec⟩ : ∃ rec : Go.Loop, rec = { state := .ready, pending := none, fn := fn, tmps := frArr n ⟨fg, dl⟩, params := ps, assign := assign, body := body, defers := D } := ⟨_, rfl⟩
 obtain ⟨W1, hW1⟩ : ∃ W1, (w.alloc (.deferred (some []))).alloc (.loop rec) = W1 := ⟨_, rfl⟩
 have hs1 : W1.heap.size = D + 2 := by rw [← hW1]; simp [hD]
 have hk1 : Kp w W1 n_ := by rw [← hW1]; exact ((Kp.refl w n_).alloc _).alloc _
 have hL1 : W1.heap[D + 1]? = some (.loop rec) := by
  rw [← hW1, ← hD]; have := World.alloc_heap_new (w.alloc (.deferred (some []))) (.loop rec); rwa [World.size_alloc] at this
 have hD1 : W1.heap[D]? = some (.deferred (some [])) := by
  rw [← hW1, ← hD]; exact (Below.heap_alloc _ _ _ (by simp)).trans (World.alloc_heap_new w _)
 refine ⟨D + 1, [{ target := .collected D, args := #[] }], W1, { target := .fn (.func gf) lb, args := #[.func (.yield (D + 1)) #[] #[]] }, W1, gf,
  #[.func (.yield (D + 1)) #[] #[]] ++ lb, W1, ?_, ?_, fun _ _ => trivial, ?_, fun h => by simp [RW, Fence.wide] at h, ?_⟩
 ·have := run_enterLoop_outer (P := P) (w := w) fn (frArr n ⟨fg, dl⟩) ps assign body
  rw [hD, ← hrec, hW1] at this
  exact this
 ·have he : (act n ⟨fg, dl⟩).eval g = .func (.func gf) #[] lb := by rw [zbJ hf]; exact hg
  simp only [resolve, he]
  simp [go_sem]
 ·simp [invoke, go_sem, hgf]
 ·refine zeN ?_
  have keepL : ∀ {W W' : World} {k : Nat} {o : Obj}, Kp W W' cI → W.heap[k]? = some o → D ≤ k → W'.heap[k]? = some o := fun {W W' k o} hk ho hle =>
   (hk.block k (Array.getElem?_eq_some_iff.1 ho).1 (fun h => by have := hcI _ h; omega)).trans ho
  have hlt : ∀ {W : World} {k : Nat} {o : Obj}, W.heap[k]? = some o → k < W.heap.size := fun ho => (Array.getElem?_eq_some_iff.1 ho).1
  refine (iter (fun pre W => I pre W ∧ W.heap[D + 1]? = some (.loop rec) ∧ W.heap[D]? = some (.deferred (some [])))
   (fun pre W => ∃ c, Ix c pre W ∧ W.heap[D + 1]? = some (.loop { rec with state := .done, pending := some c }) ∧ W.heap[D]? = some (.deferred (some [])))
   (fun pre W h => ⟨h.1, by have := hlt h.2.1; omega⟩)
   (fun pre W W' h k => ⟨hI pre W W' h.1 (by have := hlt h.2.1; omega) (k.mono fun _ _ h => .inl h), keepL k h.2.1 (by omega), keepL k h.2.2 (Nat.le_refl _)⟩)
   (fun pre W W' h k => by
    obtain ⟨c, h1, h2, h3⟩ := h
    exact ⟨c, hIx c pre W W' h1 (by have := hlt h2; omega) (k.mono fun _ _ h => .inl h), keepL k h2 (by omega), keepL k h3 (Nat.le_refl _)⟩)
   ?_ W1 ⟨h0 W1 hk1 hs1, hL1, hD1⟩).mono ?_
  ·rintro pre x W ⟨hi, hl, hd⟩ hnx
   have hsz : D + 2 ≤ W.heap.size := by have := hlt hl; omega
   refine zgT hf hrec hl (hen x) hps hpa hpb (round pre x W hi hnx hsz) ?_ ?_
   ·rintro W3 W4 h3 h4 h5 rfl
    have hs3 := hlt h3
    refine .inl ⟨rfl, hI _ _ _ h5 (by omega) ((zay _ _ _).mono fun b _ h => .inr h), World.putObj_heap_same hs3, ?_⟩
    exact (World.putObj_heap_other (by omega)).trans (h4.trans hd)
   ·rintro c W3 W4 h3 h4 h5 rfl
    have hs3 := hlt h3
    refine .inr ⟨rfl, c, hIx _ _ _ _ h5 (by omega) ((zay _ _ _).mono fun b _ h => .inr h), World.putObj_heap_same hs3, ?_⟩
    exact (World.putObj_heap_other (by omega)).trans (h4.trans hd)
  ·rintro e W2 ⟨⟨v, rfl⟩, (⟨xs, hS, hi, hl, hd⟩ | ⟨pre, c, hi, hl, hd⟩)⟩
   ·have hsz := hlt hl
    refine ⟨none, _, by have := run_endLoop (P := P) hl (by rw [hrec]; simp); rw [show rec.pending = none from by rw [hrec]] at this; exact this, ?_⟩
    have h1 := done xs (W2.putObj (D + 1) (.loop { rec with state := .exhausted, pending := none })) hS (hI _ _ _ hi (by omega) ((zay _ _ _).mono fun b _ h => .inr h)) (by rw [zba]; omega) ((World.putObj_heap_other (by omega)).trans hd)
    exact ⟨⟨fg, .of (D :: dl.toL)⟩, hf, rfl, h1.h hf⟩
   ·have hsz := hlt hl
    refine ⟨some c, _, run_endLoop (P := P) hl (by simp), ?_⟩
    have h1 := stop c pre (W2.putObj (D + 1) (.loop { rec with state := .exhausted, pending := some c })) (hIx _ _ _ _ hi (by omega) ((zay _ _ _).mono fun b _ h => .inr h)) (by rw [zba]; omega) ((World.putObj_heap_other (by omega)).trans hd)
    exact (h1.h hf : c.wpX P (LiftE n (after P n t K)) (act n ⟨fg, .of (D :: dl.toL)⟩) _) none (.inl rfl)
end
end Go.Vc
namespace Go.Vc
open Go Go.Pw
theorem YieldS.of {P : Program} {l : Nat} {args : List Value} {w : World} {R K : Value → World → Prop} (h : YieldS P l args w R) (k : ∀ v w', R v w' → K v w') : YieldS P l args w K := by
 obtain ⟨f, tmps, assign, body, h1, h2⟩ := h.h
 exact ⟨f, tmps, assign, body, h1, h2.mono fun e w' ⟨v, e1, e2⟩ => ⟨v, e1, k v w' e2⟩⟩
end Go.Vc
namespace Go.Proofs.YtennokckmjcefaaGreatDoor
open Go.Shelf Go.RowKit Go.Pw Go.Vc Go.Cs Go.Lib Go.Cd
section
variable {w : World}
theorem zkt (m : Nat) : (m : Int).tmod 128 = ((m % 128 : Nat) : Int) := by rw [Int.tmod_eq_emod_of_nonneg (by omega)]; rfl
theorem zpG (m : Nat) : (m : Int).tdiv 128 = ((m / 128 : Nat) : Int) := by rw [Int.tdiv_eq_ediv_of_nonneg (by omega)]; rfl
theorem wrap_i64 {z : Int} (h : -9223372036854775808 ≤ z) (h' : z ≤ 9223372036854775807) : IntKind.i64.wrap z = z := by
 unfold IntKind.wrap; simp [IntKind.signed, IntKind.bits]; omega
theorem zoe {m : Nat} (h : m < 256) : IntKind.u8.wrap (m : Int) = ((b8 m).toNat : Int) := by
 rw [zeS h]
 unfold IntKind.wrap; simp [IntKind.signed, IntKind.bits]; omega
theorem zft (n : Nat) (hn : n < 2 ^ 63) : Calls Tryz.prog 67 #[.int .i64 n] w fun e w' => e = .returned (.string (str (numE n))) ∧ Kp w w' n_ := by
 refine zaa (args := [.int .i64 n]) Tryz.func67 rfl NL ?_; refine GW ?_
 have hb0 := zea w w.heap.size (Nat.le_refl _)
 have K0 : Kp w (w.alloc (.cells #[.pointer none, .slice none 0 0] 93)) n_ := (Kp.refl _ _).alloc _
 generalize w.alloc (.cells #[.pointer none, .slice none 0 0] 93) = w0 at *
 refine Loop.intro (ι := Nat × List UInt8) (fun i => [(0, .int .i64 (i.1 : Nat)), (3, .pointer (some ⟨w.heap.size, 0, none⟩)), (4, .func (.func 123) #[.pointer (some ⟨w.heap.size, 0, none⟩)] #[])])
  (fun i wr => Kp w wr n_ ∧ Bld wr w.heap.size w.heap.size i.2 ∧ i.2 ++ numE i.1 = numE n ∧ i.1 < 2 ^ 63) (fun i => i.1) (n, []) ⟨rfl, rfl, by simp [upd], trivial⟩
  ⟨K0, hb0, rfl, hn⟩ ?_
 rintro ⟨m, pre⟩ g wr ⟨hK, hb, he, hm⟩
 dsimp only at hb he hm ⊢
 refine GW ?_
 have hlen := congrArg List.length he
 have hnl := zaC hn
 have hml := zca m
 rw [List.length_append] at hlen
 by_cases hlt : 128 ≤ m
 ·refine GO ?_
  rw [zkt]
  refine GO ?_
  rw [show ((m % 128 : Nat) : Int) + 128 = ((m % 128 + 128 : Nat) : Int) by omega, zoe (by omega)]
  refine CallS.of (Tryz.call123 _ _) (zdi (b8 (m % 128 + 128)) wr hb (by omega) hK.size) ?_
  rintro e w1 ⟨rfl, hb1, hbe, _⟩
  refine RT ?_
  refine GO ?_
  rw [zpG]
  refine GO ?_
  rw [zpy hlt hm] at he
  exact ⟨(m / 128, pre ++ [b8 (m % 128 + 128)]), ⟨v_int (wrap_i64 (by omega) (by omega)), rfl, rfl, trivial⟩, ⟨hK.below' hbe (Nat.le_refl _), hb1, by rw [← he]; simp, by omega⟩, by dsimp only; omega⟩
 ·refine GO ?_
  rw [zoe (by omega)]
  refine CallS.of (Tryz.call123 _ _) (zdi (b8 m) wr hb (by omega) hK.size) ?_
  rintro e w1 ⟨rfl, hb1, hbe, _⟩
  refine RT ?_
  have hK1 := hK.below' hbe (Nat.le_refl _)
  refine CallS.of (Tryz.call71 _ _) (zdb w1 hb1 hK1.size) ?_
  rintro e w2 ⟨rfl, hb2, hbe2, _⟩
  refine RT ?_
  rw [zlU (by omega)] at he
  exact ⟨by rw [he], hK1.below' hbe2 (Nat.le_refl _)⟩
end
theorem zbp (u : List UInt8) (k : Nat) : (str u).extract k u.length = str (u.drop k) := by
 apply ByteArray.ext
 simp [str]
 exact List.take_of_length_le (by simp)
def valL : List UInt8 → Nat
 | [] => 0
 | b :: r => b.toNat % 128 + 128 * valL r
theorem zoi : ∀ l : List UInt8, valL l < 128 ^ l.length
 | [] => by simp [valL]
 | b :: r => by
  have := zoi r
  simp only [valL, List.length_cons, Nat.pow_succ]
  omega
theorem zkM (b : UInt8) : ∀ l : List UInt8, valL (l ++ [b]) = valL l + b.toNat % 128 * 128 ^ l.length
 | [] => by simp [valL]
 | a :: r => by
  have := zkM b r
  simp only [List.cons_append, valL, this, List.length_cons, Nat.pow_succ]
  rw [Nat.mul_add, ← Nat.add_assoc, Nat.mul_left_comm, Nat.mul_comm 128 (128 ^ r.length)]
theorem zkw : ∀ (pre : List UInt8) (k : Nat) (z : Bool) (r : List UInt8), (∀ b ∈ pre, 128 ≤ b.toNat) → pre.length ≤ k →
  numD k z (pre ++ r) = (numD (k - pre.length) (z || decide (0 < pre.length)) r).map fun p => (valL pre + 128 ^ pre.length * p.1, p.2)
 | [], k, z, r, _, _ => by
  simp only [List.nil_append, List.length_nil, Nat.sub_zero, valL, Nat.pow_zero, Nat.zero_add, Nat.one_mul, Nat.lt_irrefl, decide_false, Bool.or_false]
  cases numD k z r <;> rfl
 | b :: pre, k + 1, z, r, h, hk => by
  have hb := h b List.mem_cons_self
  have hb2 := b.toNat_lt
  simp only [List.cons_append, numD]
  rw [if_pos hb, zkw pre k true r (fun x hx => h x (List.mem_cons_of_mem _ hx)) (by simpa using hk)]
  simp only [List.length_cons, Nat.add_sub_add_right, Bool.true_or, Nat.zero_lt_succ, decide_true, Bool.or_true]
  cases numD (k - pre.length) true r with
  | none => rfl
  | some p =>
   simp only [Option.map_some, valL, Nat.pow_succ]
   congr 2
   rw [Nat.mul_add, show b.toNat - 128 = b.toNat % 128 by omega, Nat.add_assoc, Nat.mul_comm (128 ^ pre.length) 128, Nat.mul_assoc]
theorem zoN {q m m2 j : Nat} (hq : q < 256) (hj : j < 9) (hm : m < 128 ^ j) (hva : m2 = m + q % 128 * 128 ^ j) :
  (m : Int) + IntKind.i64.wrap ((q : Int).tmod 128 * 2 ^ min (7 * (j : Int)).toNat IntKind.i64.bits) = (m2 : Int) ∧ m2 < 2 ^ 63 := by
 have hb : (IntKind.i64.bits : Nat) = 64 := rfl
 have h7 : min (7 * (j : Int)).toNat IntKind.i64.bits = 7 * j := by rw [hb]; omega
 have hp : (2 : Int) ^ (7 * j) = ((128 ^ j : Nat) : Int) := by rw [Int.pow_mul]; norm_cast
 have hle : 128 ^ j ≤ 128 ^ 8 := Nat.pow_le_pow_right (by decide) (by omega)
 have hmul : q % 128 * 128 ^ j ≤ 127 * 128 ^ 8 := Nat.mul_le_mul (by omega) hle
 rw [h7, hp, zkt, ← Int.natCast_mul, wrap_i64 (by omega) (by omega), hva]
 refine ⟨by rw [Int.natCast_add], by omega⟩
def rdC : St → List Value
 | none => [.string ⟨#[]⟩, .bool true]
 | some u => [.string (str u), .bool false]
section
variable {w : World} {b : Nat}
theorem zbo (s : St) (h : VarK w b 139 (rdC s)) : Calls Tryz.prog 115 #[.pointer (some ⟨b, 0, none⟩)] w fun e w' => e = .returned (.tuple #[]) ∧ VarK w' b 139 (rdC none) ∧ Kp w w' (one_ b) := by
 obtain ⟨x, y, hc⟩ : ∃ x y, rdC s = [x, y] := by cases s <;> exact ⟨_, _, rfl⟩
 rw [hc] at h
 refine zaa (args := [.pointer (some ⟨b, 0, none⟩)]) Tryz.func115 rfl NL ?_; refine GW ?_
 refine KGO ?_
 refine Store.cellK (i := 0) h (by simp) (by rfl) ⟨rfl, by simp, by simp⟩ fun w1 v1 k1 => ?_
 refine GW ?_
 refine Store.cellK (i := 1) v1 (by simp) (by rfl) ⟨rfl, by simp, by simp⟩ fun w2 v2 k2 => ?_
 refine GW ?_
 exact ⟨rfl, v2, k1.trans' k2⟩
theorem zcj (s : St) (h : VarK w b 139 (rdC s)) (hs : ∀ u, s = some u → u.length ≤ 140737488355328) :
  Calls Tryz.prog 51 #[.pointer (some ⟨b, 0, none⟩)] w fun e w' => e = .returned (.int .i64 ((numR s).1 : Nat)) ∧ VarK w' b 139 (rdC (numR s).2) ∧ Kp w w' (one_ b) := by
 obtain ⟨u, x, hc, hr, hux⟩ : ∃ u x, rdC s = [.string (str u), .bool x] ∧ (numR s = match numD 9 false u with | none => (0, none) | some (n, r) => (n, some r)) ∧ (s = none ∧ u = [] ∨ s = some u ∧ x = false) := by
  cases s with
  | none => exact ⟨[], true, rfl, rfl, .inl ⟨rfl, rfl⟩⟩
  | some u => exact ⟨u, false, rfl, rfl, .inr ⟨rfl, rfl⟩⟩
 have hul : u.length ≤ 140737488355328 := by
  rcases hux with ⟨_, rfl⟩ | ⟨e, _⟩
  ·simp
  ·exact hs u e
 rw [hr]
 have h0 := h
 rw [hc] at h
 have ha := h.at
 refine zaa (args := [.pointer (some ⟨b, 0, none⟩)]) Tryz.func51 rfl NL ?_; refine GW ?_
 refine Loop.intro (ι := Nat) (fun i => [(0, .pointer (some ⟨b, 0, none⟩)), (3, .int .i64 (valL (u.take i) : Nat)), (4, .int .i64 (i : Nat))])
  (fun i wr => Kp w wr n_ ∧ i ≤ u.length ∧ i ≤ 9 ∧ ∀ c ∈ u.take i, 128 ≤ c.toNat) (fun i => 9 - i) 0 ⟨rfl, rfl, rfl, trivial⟩ ⟨Kp.refl _ _, by omega, by omega, by simp⟩ ?_
 rintro i g wr ⟨hK, hi, hi9, hb⟩
 refine GW ?_
 have hsz : (str u).size = u.length := rfl
 have hpre := zkw (u.take i) 9 false (u.drop i) hb (by rw [List.length_take]; omega)
 rw [List.take_append_drop, List.length_take, Nat.min_eq_left hi] at hpre
 by_cases hlt : i < u.length ∧ i < 9
 ·obtain ⟨hlt, hlt9⟩ := hlt
  have hvl := zoi (u.take i)
  rw [List.length_take, Nat.min_eq_left hi] at hvl
  have hx : u.take (i + 1) = u.take i ++ [u[i]] := List.take_succ_eq_append_getElem hlt
  have hva := zkM u[i] (u.take i)
  rw [← hx, List.length_take, Nat.min_eq_left hi] at hva
  have hby : (byteAt (str u) i).toNat = u[i].toNat := by
   unfold byteAt; simp [str, hlt]
  obtain ⟨c, hcu⟩ : ∃ c, u[i] = c := ⟨_, rfl⟩
  have hcl := c.toNat_lt
  obtain ⟨m, hm⟩ : ∃ m, valL (u.take i) = m := ⟨_, rfl⟩
  obtain ⟨m2, hm2⟩ : ∃ m2, valL (u.take (i + 1)) = m2 := ⟨_, rfl⟩
  obtain ⟨q, hq⟩ : ∃ q, c.toNat = q := ⟨_, rfl⟩
  rw [hm, hcu, hq, hm2] at hva
  rw [hm] at hvl hpre ⊢
  rw [hcu, hq] at hby
  rw [hq] at hcl
  have hw8 : IntKind.i64.wrap ((byteAt (str u) i).toNat : Int) = (q : Int) := by rw [hby]; exact wrap_i64 (by omega) (by omega)
  obtain ⟨hsh, hm63⟩ := zoN hcl hlt9 hvl hva
  have hend : ¬ 128 ≤ q → numD 9 false u = if 0 < i ∧ q = 0 then none else some (m2, u.drop (i + 1)) := fun hn => by
   rw [hpre, List.drop_eq_getElem_cons hlt, hcu]
   obtain ⟨k, hk⟩ : ∃ k, 9 - i = k + 1 := ⟨8 - i, by omega⟩
   rw [hk]
   simp only [numD, hq, if_neg hn, Bool.false_or, decide_eq_true_eq]
   split
   ·rfl
   ·simp only [Option.map_some]; congr 2; rw [hva, Nat.mod_eq_of_lt (by omega : q < 128), Nat.mul_comm]
  have hnone : numD 9 false u = none → ∀ wx, Kp w wx n_ → VarK wx b 139 [.string (str u), .bool x] := fun _ wx kx => h.keep0 kx
  obtain rfl | rfl | rfl | rfl | rfl | rfl | rfl | rfl | rfl : i = 0 ∨ i = 1 ∨ i = 2 ∨ i = 3 ∨ i = 4 ∨ i = 5 ∨ i = 6 ∨ i = 7 ∨ i = 8 := by omega
  ·skip
   refine KGO ?_
   rw [hw8, hsh]
   by_cases hbig : 128 ≤ q
   ·refine KGO ?_
    exact ⟨1, ⟨rfl, v_int (by rw [hm2]), rfl, trivial⟩, ⟨hK, by omega, by omega, by
     rw [hx]
     intro c' hc'
     rcases List.mem_append.1 hc' with h' | h'
     ·exact hb c' h'
     ·rw [List.mem_singleton.1 h', hcu, hq]; exact hbig⟩, by dsimp only; omega⟩
   ·have hend := hend hbig
    rw [if_neg (by omega)] at hend
    by_cases hz : q = 0
    ·skip
     refine KGO ?_
     try (refine Cut.fromI (l := ((0 : Nat) : Int) + 1) (by omega) (by omega) (by omega) ?_; refine GW ?_)
     refine Store.cellK (i := 0) (h.keep0 hK) (by simp) (by rfl) ⟨rfl, by simp, by simp⟩ fun w2 v2 k2 => ?_
     refine KGO ?_
     rw [hend]
     refine ⟨rfl, ?_, (hK.of_none (c := one_ b)).trans' k2⟩
     have e2 : (str u).extract 1 (str u).size = str (u.drop 1) := by rw [hsz]; exact zbp u 1
     show VarK w2 b 139 [.string (str (u.drop 1)), .bool false]
     rw [← e2]
     rcases hux with ⟨_, hu⟩ | ⟨_, hx0⟩
     ·rw [hu] at hlt; simp at hlt
     ·rw [hx0] at v2; exact v2
    ·skip
     refine KGO ?_
     try (refine Cut.fromI (l := ((0 : Nat) : Int) + 1) (by omega) (by omega) (by omega) ?_; refine GW ?_)
     refine Store.cellK (i := 0) (h.keep0 hK) (by simp) (by rfl) ⟨rfl, by simp, by simp⟩ fun w2 v2 k2 => ?_
     refine KGO ?_
     rw [hend]
     refine ⟨rfl, ?_, (hK.of_none (c := one_ b)).trans' k2⟩
     have e2 : (str u).extract 1 (str u).size = str (u.drop 1) := by rw [hsz]; exact zbp u 1
     show VarK w2 b 139 [.string (str (u.drop 1)), .bool false]
     rw [← e2]
     rcases hux with ⟨_, hu⟩ | ⟨_, hx0⟩
     ·rw [hu] at hlt; simp at hlt
     ·rw [hx0] at v2; exact v2
  ·skip
   refine KGO ?_
   rw [hw8, hsh]
   by_cases hbig : 128 ≤ q
   ·refine KGO ?_
    exact ⟨2, ⟨rfl, v_int (by rw [hm2]), rfl, trivial⟩, ⟨hK, by omega, by omega, by
     rw [hx]
     intro c' hc'
     rcases List.mem_append.1 hc' with h' | h'
     ·exact hb c' h'
     ·rw [List.mem_singleton.1 h', hcu, hq]; exact hbig⟩, by dsimp only; omega⟩
   by_cases hz : q = 0
   ·have hend := hend hbig
    rw [if_pos ⟨by omega, hz⟩] at hend
    refine KGO ?_
    refine CallS.of (Tryz.call115 _ _) (zbo s (h0.keep0 hK)) ?_
    rintro e w2 ⟨rfl, v2, k2⟩
    refine RT ?_
    rw [hend]
    exact ⟨rfl, v2, (hK.of_none (c := one_ b)).trans' k2⟩
   ·have hend := hend hbig
    rw [if_neg (fun h => hz h.2)] at hend
    refine KGO ?_
    try (refine Cut.fromI (l := ((1 : Nat) : Int) + 1) (by omega) (by omega) (by omega) ?_; refine GW ?_)
    refine Store.cellK (i := 0) (h.keep0 hK) (by simp) (by rfl) ⟨rfl, by simp, by simp⟩ fun w2 v2 k2 => ?_
    refine KGO ?_
    rw [hend]
    refine ⟨rfl, ?_, (hK.of_none (c := one_ b)).trans' k2⟩
    have e2 : (str u).extract 2 (str u).size = str (u.drop 2) := by rw [hsz]; exact zbp u 2
    show VarK w2 b 139 [.string (str (u.drop 2)), .bool false]
    rw [← e2]
    rcases hux with ⟨_, hu⟩ | ⟨_, hx0⟩
    ·rw [hu] at hlt; simp at hlt
    ·rw [hx0] at v2; exact v2
  ·skip
   refine KGO ?_
   rw [hw8, hsh]
   by_cases hbig : 128 ≤ q
   ·refine KGO ?_
    exact ⟨3, ⟨rfl, v_int (by rw [hm2]), rfl, trivial⟩, ⟨hK, by omega, by omega, by
     rw [hx]
     intro c' hc'
     rcases List.mem_append.1 hc' with h' | h'
     ·exact hb c' h'
     ·rw [List.mem_singleton.1 h', hcu, hq]; exact hbig⟩, by dsimp only; omega⟩
   by_cases hz : q = 0
   ·have hend := hend hbig
    rw [if_pos ⟨by omega, hz⟩] at hend
    refine KGO ?_
    refine CallS.of (Tryz.call115 _ _) (zbo s (h0.keep0 hK)) ?_
    rintro e w2 ⟨rfl, v2, k2⟩
    refine RT ?_
    rw [hend]
    exact ⟨rfl, v2, (hK.of_none (c := one_ b)).trans' k2⟩
   ·have hend := hend hbig
    rw [if_neg (fun h => hz h.2)] at hend
    refine KGO ?_
    try (refine Cut.fromI (l := ((2 : Nat) : Int) + 1) (by omega) (by omega) (by omega) ?_; refine GW ?_)
    refine Store.cellK (i := 0) (h.keep0 hK) (by simp) (by rfl) ⟨rfl, by simp, by simp⟩ fun w2 v2 k2 => ?_
    refine KGO ?_
    rw [hend]
    refine ⟨rfl, ?_, (hK.of_none (c := one_ b)).trans' k2⟩
    have e2 : (str u).extract 3 (str u).size = str (u.drop 3) := by rw [hsz]; exact zbp u 3
    show VarK w2 b 139 [.string (str (u.drop 3)), .bool false]
    rw [← e2]
    rcases hux with ⟨_, hu⟩ | ⟨_, hx0⟩
    ·rw [hu] at hlt; simp at hlt
    ·rw [hx0] at v2; exact v2
  ·skip
   refine KGO ?_
   rw [hw8, hsh]
   by_cases hbig : 128 ≤ q
   ·refine KGO ?_
    exact ⟨4, ⟨rfl, v_int (by rw [hm2]), rfl, trivial⟩, ⟨hK, by omega, by omega, by
     rw [hx]
     intro c' hc'
     rcases List.mem_append.1 hc' with h' | h'
     ·exact hb c' h'
     ·rw [List.mem_singleton.1 h', hcu, hq]; exact hbig⟩, by dsimp only; omega⟩
   by_cases hz : q = 0
   ·have hend := hend hbig
    rw [if_pos ⟨by omega, hz⟩] at hend
    refine KGO ?_
    refine CallS.of (Tryz.call115 _ _) (zbo s (h0.keep0 hK)) ?_
    rintro e w2 ⟨rfl, v2, k2⟩
    refine RT ?_
    rw [hend]
    exact ⟨rfl, v2, (hK.of_none (c := one_ b)).trans' k2⟩
   ·have hend := hend hbig
    rw [if_neg (fun h => hz h.2)] at hend
    refine KGO ?_
    try (refine Cut.fromI (l := ((3 : Nat) : Int) + 1) (by omega) (by omega) (by omega) ?_; refine GW ?_)
    refine Store.cellK (i := 0) (h.keep0 hK) (by simp) (by rfl) ⟨rfl, by simp, by simp⟩ fun w2 v2 k2 => ?_
    refine KGO ?_
    rw [hend]
    refine ⟨rfl, ?_, (hK.of_none (c := one_ b)).trans' k2⟩
    have e2 : (str u).extract 4 (str u).size = str (u.drop 4) := by rw [hsz]; exact zbp u 4
    show VarK w2 b 139 [.string (str (u.drop 4)), .bool false]
    rw [← e2]
    rcases hux with ⟨_, hu⟩ | ⟨_, hx0⟩
    ·rw [hu] at hlt; simp at hlt
    ·rw [hx0] at v2; exact v2
  ·skip
   refine KGO ?_
   rw [hw8, hsh]
   by_cases hbig : 128 ≤ q
   ·refine KGO ?_
    exact ⟨5, ⟨rfl, v_int (by rw [hm2]), rfl, trivial⟩, ⟨hK, by omega, by omega, by
     rw [hx]
     intro c' hc'
     rcases List.mem_append.1 hc' with h' | h'
     ·exact hb c' h'
     ·rw [List.mem_singleton.1 h', hcu, hq]; exact hbig⟩, by dsimp only; omega⟩
   by_cases hz : q = 0
   ·have hend := hend hbig
    rw [if_pos ⟨by omega, hz⟩] at hend
    refine KGO ?_
    refine CallS.of (Tryz.call115 _ _) (zbo s (h0.keep0 hK)) ?_
    rintro e w2 ⟨rfl, v2, k2⟩
    refine RT ?_
    rw [hend]
    exact ⟨rfl, v2, (hK.of_none (c := one_ b)).trans' k2⟩
   ·have hend := hend hbig
    rw [if_neg (fun h => hz h.2)] at hend
    refine KGO ?_
    try (refine Cut.fromI (l := ((4 : Nat) : Int) + 1) (by omega) (by omega) (by omega) ?_; refine GW ?_)
    refine Store.cellK (i := 0) (h.keep0 hK) (by simp) (by rfl) ⟨rfl, by simp, by simp⟩ fun w2 v2 k2 => ?_
    refine KGO ?_
    rw [hend]
    refine ⟨rfl, ?_, (hK.of_none (c := one_ b)).trans' k2⟩
    have e2 : (str u).extract 5 (str u).size = str (u.drop 5) := by rw [hsz]; exact zbp u 5
    show VarK w2 b 139 [.string (str (u.drop 5)), .bool false]
    rw [← e2]
    rcases hux with ⟨_, hu⟩ | ⟨_, hx0⟩
    ·rw [hu] at hlt; simp at hlt
    ·rw [hx0] at v2; exact v2
  ·skip
   refine KGO ?_
   rw [hw8, hsh]
   by_cases hbig : 128 ≤ q
   ·refine KGO ?_
    exact ⟨6, ⟨rfl, v_int (by rw [hm2]), rfl, trivial⟩, ⟨hK, by omega, by omega, by
     rw [hx]
     intro c' hc'
     rcases List.mem_append.1 hc' with h' | h'
     ·exact hb c' h'
     ·rw [List.mem_singleton.1 h', hcu, hq]; exact hbig⟩, by dsimp only; omega⟩
   by_cases hz : q = 0
   ·have hend := hend hbig
    rw [if_pos ⟨by omega, hz⟩] at hend
    refine KGO ?_
    refine CallS.of (Tryz.call115 _ _) (zbo s (h0.keep0 hK)) ?_
    rintro e w2 ⟨rfl, v2, k2⟩
    refine RT ?_
    rw [hend]
    exact ⟨rfl, v2, (hK.of_none (c := one_ b)).trans' k2⟩
   ·have hend := hend hbig
    rw [if_neg (fun h => hz h.2)] at hend
    refine KGO ?_
    try (refine Cut.fromI (l := ((5 : Nat) : Int) + 1) (by omega) (by omega) (by omega) ?_; refine GW ?_)
    refine Store.cellK (i := 0) (h.keep0 hK) (by simp) (by rfl) ⟨rfl, by simp, by simp⟩ fun w2 v2 k2 => ?_
    refine KGO ?_
    rw [hend]
    refine ⟨rfl, ?_, (hK.of_none (c := one_ b)).trans' k2⟩
    have e2 : (str u).extract 6 (str u).size = str (u.drop 6) := by rw [hsz]; exact zbp u 6
    show VarK w2 b 139 [.string (str (u.drop 6)), .bool false]
    rw [← e2]
    rcases hux with ⟨_, hu⟩ | ⟨_, hx0⟩
    ·rw [hu] at hlt; simp at hlt
    ·rw [hx0] at v2; exact v2
  ·skip
   refine KGO ?_
   rw [hw8, hsh]
   by_cases hbig : 128 ≤ q
   ·refine KGO ?_
    exact ⟨7, ⟨rfl, v_int (by rw [hm2]), rfl, trivial⟩, ⟨hK, by omega, by omega, by
     rw [hx]
     intro c' hc'
     rcases List.mem_append.1 hc' with h' | h'
     ·exact hb c' h'
     ·rw [List.mem_singleton.1 h', hcu, hq]; exact hbig⟩, by dsimp only; omega⟩
   by_cases hz : q = 0
   ·have hend := hend hbig
    rw [if_pos ⟨by omega, hz⟩] at hend
    refine KGO ?_
    refine CallS.of (Tryz.call115 _ _) (zbo s (h0.keep0 hK)) ?_
    rintro e w2 ⟨rfl, v2, k2⟩
    refine RT ?_
    rw [hend]
    exact ⟨rfl, v2, (hK.of_none (c := one_ b)).trans' k2⟩
   ·have hend := hend hbig
    rw [if_neg (fun h => hz h.2)] at hend
    refine KGO ?_
    try (refine Cut.fromI (l := ((6 : Nat) : Int) + 1) (by omega) (by omega) (by omega) ?_; refine GW ?_)
    refine Store.cellK (i := 0) (h.keep0 hK) (by simp) (by rfl) ⟨rfl, by simp, by simp⟩ fun w2 v2 k2 => ?_
    refine KGO ?_
    rw [hend]
    refine ⟨rfl, ?_, (hK.of_none (c := one_ b)).trans' k2⟩
    have e2 : (str u).extract 7 (str u).size = str (u.drop 7) := by rw [hsz]; exact zbp u 7
    show VarK w2 b 139 [.string (str (u.drop 7)), .bool false]
    rw [← e2]
    rcases hux with ⟨_, hu⟩ | ⟨_, hx0⟩
    ·rw [hu] at hlt; simp at hlt
    ·rw [hx0] at v2; exact v2
  ·skip
   refine KGO ?_
   rw [hw8, hsh]
   by_cases hbig : 128 ≤ q
   ·refine KGO ?_
    exact ⟨8, ⟨rfl, v_int (by rw [hm2]), rfl, trivial⟩, ⟨hK, by omega, by omega, by
     rw [hx]
     intro c' hc'
     rcases List.mem_append.1 hc' with h' | h'
     ·exact hb c' h'
     ·rw [List.mem_singleton.1 h', hcu, hq]; exact hbig⟩, by dsimp only; omega⟩
   by_cases hz : q = 0
   ·have hend := hend hbig
    rw [if_pos ⟨by omega, hz⟩] at hend
    refine KGO ?_
    refine CallS.of (Tryz.call115 _ _) (zbo s (h0.keep0 hK)) ?_
    rintro e w2 ⟨rfl, v2, k2⟩
    refine RT ?_
    rw [hend]
    exact ⟨rfl, v2, (hK.of_none (c := one_ b)).trans' k2⟩
   ·have hend := hend hbig
    rw [if_neg (fun h => hz h.2)] at hend
    refine KGO ?_
    try (refine Cut.fromI (l := ((7 : Nat) : Int) + 1) (by omega) (by omega) (by omega) ?_; refine GW ?_)
    refine Store.cellK (i := 0) (h.keep0 hK) (by simp) (by rfl) ⟨rfl, by simp, by simp⟩ fun w2 v2 k2 => ?_
    refine KGO ?_
    rw [hend]
    refine ⟨rfl, ?_, (hK.of_none (c := one_ b)).trans' k2⟩
    have e2 : (str u).extract 8 (str u).size = str (u.drop 8) := by rw [hsz]; exact zbp u 8
    show VarK w2 b 139 [.string (str (u.drop 8)), .bool false]
    rw [← e2]
    rcases hux with ⟨_, hu⟩ | ⟨_, hx0⟩
    ·rw [hu] at hlt; simp at hlt
    ·rw [hx0] at v2; exact v2
  ·skip
   refine KGO ?_
   rw [hw8, hsh]
   by_cases hbig : 128 ≤ q
   ·refine KGO ?_
    exact ⟨9, ⟨rfl, v_int (by rw [hm2]), rfl, trivial⟩, ⟨hK, by omega, by omega, by
     rw [hx]
     intro c' hc'
     rcases List.mem_append.1 hc' with h' | h'
     ·exact hb c' h'
     ·rw [List.mem_singleton.1 h', hcu, hq]; exact hbig⟩, by dsimp only; omega⟩
   by_cases hz : q = 0
   ·have hend := hend hbig
    rw [if_pos ⟨by omega, hz⟩] at hend
    refine KGO ?_
    refine CallS.of (Tryz.call115 _ _) (zbo s (h0.keep0 hK)) ?_
    rintro e w2 ⟨rfl, v2, k2⟩
    refine RT ?_
    rw [hend]
    exact ⟨rfl, v2, (hK.of_none (c := one_ b)).trans' k2⟩
   ·have hend := hend hbig
    rw [if_neg (fun h => hz h.2)] at hend
    refine KGO ?_
    try (refine Cut.fromI (l := ((8 : Nat) : Int) + 1) (by omega) (by omega) (by omega) ?_; refine GW ?_)
    refine Store.cellK (i := 0) (h.keep0 hK) (by simp) (by rfl) ⟨rfl, by simp, by simp⟩ fun w2 v2 k2 => ?_
    refine KGO ?_
    rw [hend]
    refine ⟨rfl, ?_, (hK.of_none (c := one_ b)).trans' k2⟩
    have e2 : (str u).extract 9 (str u).size = str (u.drop 9) := by rw [hsz]; exact zbp u 9
    show VarK w2 b 139 [.string (str (u.drop 9)), .bool false]
    rw [← e2]
    rcases hux with ⟨_, hu⟩ | ⟨_, hx0⟩
    ·rw [hu] at hlt; simp at hlt
    ·rw [hx0] at v2; exact v2
 ·have hend : numD 9 false u = none := by
   rw [hpre]
   by_cases h9 : i = 9
   ·subst h9; rfl
   ·rw [List.drop_of_length_le (by omega)]
    obtain ⟨k, hk⟩ : ∃ k, 9 - i = k + 1 := ⟨8 - i, by omega⟩
    rw [hk]; rfl
  by_cases hlt1 : i < u.length
  ·refine KGO ?_
   refine CallS.of (Tryz.call115 _ _) (zbo s (h0.keep0 hK)) ?_
   rintro e w2 ⟨rfl, v2, k2⟩
   refine RT ?_
   rw [hend]
   exact ⟨rfl, v2, (hK.of_none (c := one_ b)).trans' k2⟩
  ·refine KGO ?_
   refine CallS.of (Tryz.call115 _ _) (zbo s (h0.keep0 hK)) ?_
   rintro e w2 ⟨rfl, v2, k2⟩
   refine RT ?_
   rw [hend]
   exact ⟨rfl, v2, (hK.of_none (c := one_ b)).trans' k2⟩
end
end Go.Proofs.YtennokckmjcefaaGreatDoor
