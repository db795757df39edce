/- Helper lemmas that the proved statement rests on; no conditions of their own. -/
import Derived.Test.YtmjeacpoobbjjaaGreatDoorGCw4
set_option linter.unusedVariables false
set_option maxHeartbeats 4000000
set_option maxRecDepth 100000
namespace Go.Cd
def b8 (n : Nat) : UInt8 := UInt8.ofNat n
theorem zfi {n : Nat} (h : n < 256) : (b8 n).toNat = n := by simp [b8]; omega
def numF : Nat → Nat → List UInt8
 | 0, n => [b8 n]
 | k + 1, n => if n < 128 then [b8 n] else b8 (n % 128 + 128) :: numF k (n / 128)
def numE (n : Nat) : List UInt8 := numF 64 n
theorem zfD : ∀ (j k n : Nat), n < 128 ^ (j + 1) → (numF k n).length ≤ j + 1
 | _, 0, n, _ => by simp [numF]
 | 0, k + 1, n, h => by unfold numF; rw [if_pos (by simpa using h)]; simp
 | j + 1, k + 1, n, h => by
  unfold numF
  split
  ·simp
  ·have := zfD j k (n / 128) (by rw [Nat.pow_succ] at h; omega)
   simp; omega
theorem zgX {n : Nat} (h : n < 2 ^ 63) : (numE n).length ≤ 9 := zfD 8 64 n (by omega)
def numD : Nat → Bool → List UInt8 → Option (Nat × List UInt8)
 | 0, _, _ => none
 | _ + 1, _, [] => none
 | k + 1, z, b :: r => if 128 ≤ b.toNat then (numD k true r).map fun p => (b.toNat - 128 + 128 * p.1, p.2) else if z = true ∧ b.toNat = 0 then none else some (b.toNat, r)
theorem zha : ∀ (k j n : Nat) (z : Bool) (r : List UInt8), n < 128 ^ k → k ≤ j + 1 → 0 < k → (z = true → 0 < n) → numD k z (numF j n ++ r) = some (n, r)
 | 0, _, n, _, _, h, _, h0, _ => by omega
 | k + 1, 0, n, z, r, h, hj, h0, hz => by
  obtain rfl : k = 0 := by omega
  have h : n < 128 := by simpa using h
  simp only [numF, List.cons_append, List.nil_append, numD]
  rw [zfi (by omega), if_neg (by omega), if_neg (by rintro ⟨h1, h2⟩; have := hz h1; omega)]
 | k + 1, j + 1, n, z, r, h, hj, h0, hz => by
  unfold numF
  split
  ·rename_i hn
   simp only [List.cons_append, List.nil_append, numD]
   rw [zfi (by omega), if_neg (by omega), if_neg (by rintro ⟨h1, h2⟩; have := hz h1; omega)]
  ·simp only [List.cons_append, numD]
   rw [zfi (by omega), if_pos (by omega), zha k j (n / 128) true r (by rw [Nat.pow_succ] at h; omega) (by omega) (by cases k with | zero => simp at h; omega | succ k => omega) (fun _ => by omega)]
   simp only [Option.map_some]
   congr 2; omega
theorem ziP {n : Nat} (h : n < 2 ^ 63) (r : List UInt8) : numD 9 false (numE n ++ r) = some (n, r) := zha 9 64 n false r (by omega) (by omega) (by omega) (fun h => by cases h)
end Go.Cd
namespace Go.Mg
open Go.Cs Go.Lib Go.Cd
structure Pst where
 doc : Int
 places : List Int
deriving DecidableEq, Inhabited
def risesB : Int → List Int → Bool
 | _, [] => true
 | low, n :: l => decide (low ≤ n ∧ n ≤ 1099511627776) && risesB (n + 1) l
theorem zex : ∀ (l : List Int) (low : Int), risesB low l = true ↔ AscB ltI l ∧ ∀ n ∈ l, low ≤ n ∧ n ≤ 1099511627776
 | [], low => by simp [risesB, AscB]
 | n :: l, low => by
  rw [risesB, Bool.and_eq_true, decide_eq_true_eq, zex l (n + 1)]
  unfold AscB
  rw [List.pairwise_cons]
  constructor
  ·rintro ⟨⟨h1, h2⟩, h3, h4⟩
   refine ⟨⟨fun a ha => ?_, h3⟩, fun m hm => ?_⟩
   ·have := h4 a ha; simp only [ltI, decide_eq_true_eq]; omega
   ·rcases List.mem_cons.1 hm with rfl | hm
    ·exact ⟨h1, h2⟩
    ·have := h4 m hm; omega
  ·rintro ⟨⟨h1, h2⟩, h3⟩
   refine ⟨h3 n List.mem_cons_self, h2, fun m hm => ?_⟩
   have a := h1 m hm
   have b := h3 m (List.mem_cons_of_mem _ hm)
   simp only [ltI, decide_eq_true_eq] at a; omega
theorem zdE : ∀ (l : List Int) (low : Int), risesB low l = true → low ≤ 1099511627777 → (l.length : Int) ≤ 1099511627777 - low
 | [], low, _, h => by simp only [List.length_nil]; omega
 | n :: l, low, h, _ => by
  rw [risesB, Bool.and_eq_true, decide_eq_true_eq] at h
  have := zdE l (n + 1) h.2 (by omega)
  simp only [List.length_cons]; omega
def okPl (p : Pst) : Bool := !p.places.isEmpty && risesB 0 p.places
def rightP (l : List Pst) : Bool := l.all okPl && risesB 1 (l.map (·.doc))
theorem zdZ {l : List Pst} : rightP l = true ↔ (∀ p ∈ l, p.places ≠ [] ∧ risesB 0 p.places = true) ∧ risesB 1 (l.map (·.doc)) = true := by
 unfold rightP okPl
 simp
def difs : Int → List Int → List Nat
 | _, [] => []
 | at_, n :: l => (n - at_).toNat :: difs n l
def encN : Int → List Pst → List Nat
 | _, [] => []
 | d, p :: l => (p.doc - d).toNat :: p.places.length :: (difs 0 p.places ++ encN p.doc l)
def encP (l : List Pst) : List UInt8 := if rightP l = true then numE l.length ++ (encN 0 l).flatMap numE else []
theorem zcx {l : List Int} {low low' : Int} (h : risesB low l = true) (hl : low' ≤ low) : risesB low' l = true := by
 rw [zex] at h ⊢
 exact ⟨h.1, fun n hn => by have := h.2 n hn; omega⟩
theorem zek : ∀ (l : List Int) (a : Int), risesB a l = true → 0 ≤ a → ∀ n ∈ difs a l, n ≤ 1099511627776
 | [], a, _, _, n, h => by cases h
 | x :: l, a, hr, ha, n, h => by
  rw [risesB, Bool.and_eq_true, decide_eq_true_eq] at hr
  rcases List.mem_cons.1 h with rfl | h
  ·omega
  ·exact zek l x (zcx hr.2 (by omega)) (by omega) n h
theorem zdY : ∀ (l : List Pst) (d : Int), (∀ p ∈ l, risesB 0 p.places = true) → risesB d (l.map (·.doc)) = true → 0 ≤ d → ∀ n ∈ encN d l, n ≤ 1099511627777
 | [], d, _, _, _, n, h => by cases h
 | p :: l, d, hp, hr, hd, n, h => by
  rw [List.map_cons, risesB, Bool.and_eq_true, decide_eq_true_eq] at hr
  have hp1 := hp p List.mem_cons_self
  have hl := zdE _ _ hp1 (by omega)
  rw [encN] at h
  rcases List.mem_cons.1 h with rfl | h
  ·omega
  rcases List.mem_cons.1 h with rfl | h
  ·omega
  rcases List.mem_append.1 h with h | h
  ·have := zek _ _ hp1 (by omega) n h; omega
  ·exact zdY l p.doc (fun q hq => hp q (List.mem_cons_of_mem _ hq)) (zcx hr.2 (by omega)) (by omega) n h
theorem zkq {l : List Pst} (h : rightP l = true) : l.length ≤ 1099511627776 := by
 have := zdE _ _ (zdZ.1 h).2 (by omega)
 rw [List.length_map] at this; omega
theorem zic (l : List Nat) (h : ∀ n ∈ l, n < 2 ^ 63) : (l.flatMap numE).length ≤ 9 * l.length := by
 induction l with
 | nil => simp
 | cons n l ih =>
  have h1 := zgX (h n List.mem_cons_self)
  have h2 := ih fun m hm => h m (List.mem_cons_of_mem _ hm)
  simp only [List.flatMap_cons, List.length_append, List.length_cons]; omega
theorem zeQ (l : List Pst) : (encP l).length ≤ 9 + 9 * (encN 0 l).length := by
 unfold encP
 split
 ·rename_i h
  have h1 := zdZ.1 h
  have h2 := zic (encN 0 l) fun n hn => by have := zdY l 0 (fun p hp => (h1.1 p hp).2) (zcx h1.2 (by omega)) (by omega) n hn; omega
  have h3 := zkq h
  have h4 := zgX (show l.length < 2 ^ 63 by omega)
  rw [List.length_append]; omega
 ·simp
section
end
section
end
end Go.Mg
namespace Go.Vc
open Go Go.Pw Go.RowKit
def putPs : List Tmp → List Value → Fr → Fr
 | p :: ps, v :: vs, f => putPs ps vs (upd f p v)
 | _, _, f => f
theorem zgR {n : Nat} : ∀ (ps : List Tmp) (vs : List Value) (f : Fr), Ok n f → (ps.all fun p => Nat.ble (p + 1) n) = true → Ok n (putPs ps vs f) ∧
  (ps.zip vs).foldl (fun tmps (x : Tmp × Value) => tmps.setIfInBounds x.1 x.2) (frArr n f) = frArr n (putPs ps vs f)
 | [], _, f, hf, _ => ⟨hf, rfl⟩
 | _ :: _, [], f, hf, _ => ⟨hf, rfl⟩
 | p :: ps, v :: vs, f, hf, h => by
  simp only [List.all_cons, Bool.and_eq_true] at h
  have hp : p < n := Nat.le_of_ble_eq_true h.1
  obtain ⟨h1, h2⟩ := zgR ps vs (upd f p v) (zkG hf hp v) h.2
  refine ⟨h1, ?_⟩
  simp only [List.zip_cons_cons, List.foldl_cons, putPs, zfp hp v]
  exact h2
structure Rec2 (D : Nat) (w w' : World) : Prop where
 d : w'.heap[D]? = w.heap[D]?
 l : w'.heap[D + 1]? = w.heap[D + 1]?
theorem Rec2.of {D : Nat} {w w' : World} {c : Nat → Prop} (k : Kp w w' c) (h : D + 1 < w.heap.size) (h0 : ¬ c D) (h1 : ¬ c (D + 1)) : Rec2 D w w' := ⟨k.block _ (by omega) h0, k.block _ h h1⟩
def rangeK {α : Type} (D : Nat) (I : List α → World → Prop) (Ix : Code → List α → World → Prop) (xs : List α) (W : World) : Exit → Fr → World → Prop
 | .normal, _, W' => Ret (Rec2 D W W' ∧ I xs W')
 | .ret, _, W' => Ret (Rec2 D W W' ∧ Ix .ret xs W')
 | .exit id, _, W' => Ret (Rec2 D W W' ∧ Ix (.exit id) xs W')
 | _, _, _ => False
structure Body (p : Prop) : Prop where
 h : p
def asgK {α : Type} (P : Program) (n : Nat) (D : Nat) (I : List α → World → Prop) (Ix : Code → List α → World → Prop) (xs : List α) (W : World) (body : Code) : Exit → Fr → World → Prop
 | .normal, g, W1 => Body (Rec2 D W W1 ∧ ∀ W2, Kp W1 W2 (one_ (D + 1)) → W2.heap.size = W1.heap.size → Sat P n (rangeK D I Ix xs W2) .normal [.code body] g W2)
 | _, _, _ => False
theorem zaM (w : World) (r : Nat) (o : Obj) : (w.putObj r o).heap.size = w.heap.size := by simp [World.putObj]
theorem zaA (w : World) (r : Nat) (o : Obj) : Kp w (w.putObj r o) (one_ r) := ⟨rfl, rfl, rfl, by rw [zaM]; exact Nat.le_refl _, fun k _ hn => World.putObj_heap_other hn⟩
section
variable {P : Program} {n : Nat} {K : Exit → Fr → World → Prop} {ps : Array Tmp} {assign body : Code} {t : List It} {g : Operand} {fg : Nat → Value} {dl : DL} {w : World} {gf : Nat} {lb : Array Value} {α : Type}
theorem zgQ {D fn : Nat} {rec : Go.Loop} {W : World} {vs : List Value} {I : List α → World → Prop} {Ix : Code → List α → World → Prop} {xs : List α} {R : Value → World → Prop} (hf : Ok n ⟨fg, dl⟩)
  (hr : rec = { state := .ready, pending := none, fn := fn, tmps := frArr n ⟨fg, dl⟩, params := ps, assign := assign, body := body, defers := D })
  (hl : W.heap[D + 1]? = some (.loop rec)) (hvs : vs.length = ps.size) (hps : (ps.toList.all fun p => Nat.ble (p + 1) n) = true) (hpa : plainC assign = true) (hpb : plainC body = true)
  (round : Sat P n (asgK P n D I Ix xs W body) .normal [.code assign] (putPs ps.toList vs ⟨fg, .nil⟩) W)
  (k1 : ∀ W3 W4, W3.heap[D + 1]? = some (.loop { rec with state := .busy }) → W3.heap[D]? = W.heap[D]? → I xs W3 → W4 = W3.putObj (D + 1) (.loop rec) → R (.bool true) W4)
  (k2 : ∀ c W3 W4, W3.heap[D + 1]? = some (.loop { rec with state := .busy }) → W3.heap[D]? = W.heap[D]? → Ix c xs W3 → W4 = W3.putObj (D + 1) (.loop { rec with state := .done, pending := some c }) → R (.bool false) W4) :
  YieldS P (D + 1) vs W R := by
 have hfr : rec.fn = fn ∧ rec.tmps = frArr n ⟨fg, dl⟩ ∧ rec.params = ps ∧ rec.assign = assign ∧ rec.body = body ∧ rec.state = .ready ∧ rec.pending = none := by subst hr; exact ⟨rfl, rfl, rfl, rfl, rfl, rfl, rfl⟩
 obtain ⟨e1, e2, e3, e4, e5, e6, e7⟩ := hfr
 have hy := run_yield (P := P) (args := vs.toArray) hl (by rw [e3]; simpa using hvs)
 rw [e1, e2, e3, e4, e5] at hy
 obtain ⟨hg0, hz⟩ := zgR ps.toList vs ⟨fg, dl⟩ hf hps
 have hz' : (ps.zip vs.toArray).foldl (fun tmps (x : Tmp × Value) => tmps.setIfInBounds x.1 x.2) (frArr n ⟨fg, dl⟩) = frArr n (putPs ps.toList vs ⟨fg, dl⟩) := by
  rw [← hz]
  obtain ⟨pl⟩ := ps
  simp [← List.foldl_toArray', List.zip_toArray]
 have hsame : ∀ (pl : List Tmp) (vs : List Value) (a : Nat → Value) (d d' : DL), (putPs pl vs ⟨a, d⟩).g = (putPs pl vs ⟨a, d'⟩).g ∧ (putPs pl vs ⟨a, d⟩).ds = d := by
  intro pl
  induction pl with
  | nil => intro vs a d d'; exact ⟨rfl, rfl⟩
  | cons p pl ih =>
   intro vs a d d'
   cases vs with
   | nil => exact ⟨rfl, rfl⟩
   | cons v vs => exact ih vs _ d d'
 have hact : act n (putPs ps.toList vs ⟨fg, .nil⟩) = { tmps := frArr n (putPs ps.toList vs ⟨fg, dl⟩), defers := [] } := by
  obtain ⟨h1, h2⟩ := hsame ps.toList vs fg .nil dl
  simp only [act, frArr, h1, h2]; rfl
 refine ⟨fn, _, assign, body, hy, ?_⟩
 refine roundIn_of_wpIn trivial ?_
 have hz'' : (ps.zip vs.toArray).foldl (fun tmps (x : Tmp × Value) => match x with | (t, a) => tmps.setIfInBounds t a) (frArr n ⟨fg, dl⟩) = frArr n (putPs ps.toList vs ⟨fg, dl⟩) := hz'
 rw [hz'', ← hact]
 have hok : Ok n (putPs ps.toList vs ⟨fg, .nil⟩) := by
  intro j hj
  rw [(hsame ps.toList vs fg .nil dl).1]; exact hg0 j hj
 have h1 := (show assign.wpX P (LiftE n (after P n [] (asgK P n D I Ix xs W body))) (act n (putPs ps.toList vs ⟨fg, .nil⟩)) W from round.h hok) (some (D + 1)) (.inr hpa)
 refine wpIn_mono h1 fun e a W1 he => ?_
 obtain ⟨g', hg', rfl, hk⟩ := he
 have hk : asgK P n D I Ix xs W body e g' W1 := hk
 cases e with
 | normal =>
  obtain ⟨hrec, hbody⟩ := Body.h hk
  have hl1 : W1.heap[D + 1]? = some (.loop rec) := hrec.l.trans hl
  refine ⟨_, run_beginRound hl1 e6, ?_⟩
  have hlt : D + 1 < W1.heap.size := (Array.getElem?_eq_some_iff.1 hl1).1
  have hl2 : (W1.putObj (D + 1) (.loop { rec with state := .busy })).heap[D + 1]? = some (.loop { rec with state := .busy }) := World.putObj_heap_same hlt
  have hd2 : (W1.putObj (D + 1) (.loop { rec with state := .busy })).heap[D]? = W.heap[D]? := (World.putObj_heap_other (by omega)).trans hrec.d
  have hb := hbody (W1.putObj (D + 1) (.loop { rec with state := .busy })) (zaA _ _ _) (zaM _ _ _)
  refine wpIn_mono ((show body.wpX P (LiftE n (after P n [] (rangeK D I Ix xs _))) (act n g') _ from hb.h hg') (some (D + 1)) (.inr hpb)) fun e a W3 he => ?_
  obtain ⟨g3, hg3, rfl, hk3⟩ := he
  have hk3 : rangeK D I Ix xs _ e g3 W3 := hk3
  have fin : ∀ (j : Option Code), Rec2 D (W1.putObj (D + 1) (.loop { rec with state := .busy })) W3 →
    W3.heap[D + 1]? = some (.loop { rec with state := .busy }) ∧ W3.heap[D]? = W.heap[D]? ∧
    (Instr.endRound (D + 1) j).run P W3 = .ok (.bool j.isNone) (W3.putObj (D + 1) (.loop { rec with state := if j.isNone then .ready else .done, pending := j })) := fun j hr2 => by
   have h3 := hr2.l.trans hl2
   exact ⟨h3, hr2.d.trans hd2, run_endRound (r := { rec with state := .busy }) j h3⟩
  cases e with
  | normal =>
   obtain ⟨hr2, hI⟩ := Ret.h hk3
   obtain ⟨h3, h4, h5⟩ := fin none hr2
   refine ⟨_, _, h5, _, rfl, k1 W3 _ h3 h4 hI ?_⟩
   congr 2
   subst hr; rfl
  | ret =>
   obtain ⟨hr2, hI⟩ := Ret.h hk3
   obtain ⟨h3, h4, h5⟩ := fin (some .ret) hr2
   exact ⟨_, _, h5, _, rfl, k2 _ W3 _ h3 h4 hI rfl⟩
  | exit id =>
   obtain ⟨hr2, hI⟩ := Ret.h hk3
   obtain ⟨h3, h4, h5⟩ := fin (some (.exit id)) hr2
   exact ⟨_, _, h5, _, rfl, k2 _ W3 _ h3 h4 hI rfl⟩
  | goto id => exact hk3.elim
  | panic ch => exact hk3.elim
  | outgrown => exact hk3.elim
 | _ => exact hk.elim
theorem Range.intro (enc : α → List Value) (hg : ev ⟨fg, dl⟩ g = .func (.func gf) #[] lb) (hgf : ∀ args w, (callFunc gf args).run P w = .ok (.enter gf args) w)
  (hpa : plainC assign = true) (hpb : plainC body = true) (hps : (ps.toList.all fun p => Nat.ble (p + 1) n) = true) (hen : ∀ x, (enc x).length = ps.size)
  (cI : Nat → Prop) (hcI : ∀ b, cI b → b < w.heap.size) (I : List α → World → Prop) (Ix : Code → List α → World → Prop) (S : List α → Prop) (Nx : List α → α → Prop)
  (hI : ∀ pre W W', I pre W → w.heap.size + 2 ≤ W.heap.size → Kp W W' (fun b => cI b ∨ b = w.heap.size + 1) → I pre W')
  (hIx : ∀ c pre W W', Ix c pre W → w.heap.size + 2 ≤ W.heap.size → Kp W W' (fun b => cI b ∨ b = w.heap.size + 1) → Ix c pre W')
  (h0 : ∀ W, Kp w W n_ → W.heap.size = w.heap.size + 2 → I [] W)
  (iter : ∀ J Jx : List α → World → Prop, (∀ pre W, J pre W → I pre W ∧ w.heap.size + 2 ≤ W.heap.size) → (∀ pre W W', J pre W → Kp W W' cI → J pre W') → (∀ pre W W', Jx pre W → Kp W W' cI → Jx pre W') →
   (∀ pre x W, J pre W → Nx pre x → YieldS P (w.heap.size + 1) (enc x) W fun v W' => (v = .bool true ∧ J (pre ++ [x]) W') ∨ (v = .bool false ∧ Jx (pre ++ [x]) W')) →
   ∀ W, J [] W → Calls P gf (#[.func (.yield (w.heap.size + 1)) #[] #[]] ++ lb) W fun e W' => (∃ v, e = .returned v) ∧ ((∃ xs, S xs ∧ J xs W') ∨ ∃ pre, Jx pre W'))
  (round : ∀ pre x W, I pre W → Nx pre x → w.heap.size + 2 ≤ W.heap.size → Sat P n (asgK P n w.heap.size I Ix (pre ++ [x]) W body) .normal [.code assign] (putPs ps.toList (enc x) ⟨fg, .nil⟩) W)
  (done : ∀ xs W, S xs → I xs W → w.heap.size + 2 ≤ W.heap.size → W.heap[w.heap.size]? = some (.deferred (some [])) → Sat P n K .normal t ⟨fg, .of (w.heap.size :: dl.toL)⟩ W)
  (stop : ∀ c pre W, Ix c pre W → w.heap.size + 2 ≤ W.heap.size → W.heap[w.heap.size]? = some (.deferred (some [])) → Sat P n K .normal (.code c :: t) ⟨fg, .of (w.heap.size :: dl.toL)⟩ W) :
  Range P n K g ps assign body t ⟨fg, dl⟩ w := by
 refine ⟨fun hf r hr => ?_⟩
 obtain rfl : r = none := by
  rcases hr with h | h
  ·exact h
  ·cases h
 refine wpIn_rangeFunc ?_
 intro fn _
 generalize hD : w.heap.size = D at *
 obtain ⟨rec, hrec⟩ : ∃ rec : Go.Loop, rec = { state := .ready, pending := none, fn := fn, tmps := frArr n ⟨fg, dl⟩, params := ps, assign := assign, body := body, defers := D } := ⟨_, rfl⟩
 obtain ⟨W1, hW1⟩ : ∃ W1, (w.alloc (.deferred (some []))).alloc (.loop rec) = W1 := ⟨_, rfl⟩
 have hs1 : W1.heap.size = D + 2 := by rw [← hW1]; simp [hD]
 have hk1 : Kp w W1 n_ := by rw [← hW1]; exact ((Kp.refl w n_).alloc _).alloc _
 have hL1 : W1.heap[D + 1]? = some (.loop rec) := by
  rw [← hW1, ← hD]; have := World.alloc_heap_new (w.alloc (.deferred (some []))) (.loop rec); rwa [World.size_alloc] at this
 have hD1 : W1.heap[D]? = some (.deferred (some [])) := by
  rw [← hW1, ← hD]; exact (Below.heap_alloc _ _ _ (by simp)).trans (World.alloc_heap_new w _)
 refine ⟨D + 1, [{ target := .collected D, args := #[] }], W1, { target := .fn (.func gf) lb, args := #[.func (.yield (D + 1)) #[] #[]] }, W1, gf,
  #[.func (.yield (D + 1)) #[] #[]] ++ lb, W1, ?_, ?_, fun _ _ => trivial, ?_, fun h => by simp [RW, Fence.wide] at h, ?_⟩
 ·have := run_enterLoop_outer (P := P) (w := w) fn (frArr n ⟨fg, dl⟩) ps assign body
  rw [hD, ← hrec, hW1] at this
  exact this
 ·have he : (act n ⟨fg, dl⟩).eval g = .func (.func gf) #[] lb := by rw [zbe hf]; exact hg
  simp only [resolve, he]
  simp [go_sem]
 ·simp [invoke, go_sem, hgf]
 ·refine zeZ ?_
  have keepL : ∀ {W W' : World} {k : Nat} {o : Obj}, Kp W W' cI → W.heap[k]? = some o → D ≤ k → W'.heap[k]? = some o := fun {W W' k o} hk ho hle =>
   (hk.block k (Array.getElem?_eq_some_iff.1 ho).1 (fun h => by have := hcI _ h; omega)).trans ho
  have hlt : ∀ {W : World} {k : Nat} {o : Obj}, W.heap[k]? = some o → k < W.heap.size := fun ho => (Array.getElem?_eq_some_iff.1 ho).1
  refine (iter (fun pre W => I pre W ∧ W.heap[D + 1]? = some (.loop rec) ∧ W.heap[D]? = some (.deferred (some [])))
   (fun pre W => ∃ c, Ix c pre W ∧ W.heap[D + 1]? = some (.loop { rec with state := .done, pending := some c }) ∧ W.heap[D]? = some (.deferred (some [])))
   (fun pre W h => ⟨h.1, by have := hlt h.2.1; omega⟩)
   (fun pre W W' h k => ⟨hI pre W W' h.1 (by have := hlt h.2.1; omega) (k.mono fun _ _ h => .inl h), keepL k h.2.1 (by omega), keepL k h.2.2 (Nat.le_refl _)⟩)
   (fun pre W W' h k => by
    obtain ⟨c, h1, h2, h3⟩ := h
    exact ⟨c, hIx c pre W W' h1 (by have := hlt h2; omega) (k.mono fun _ _ h => .inl h), keepL k h2 (by omega), keepL k h3 (Nat.le_refl _)⟩)
   ?_ W1 ⟨h0 W1 hk1 hs1, hL1, hD1⟩).mono ?_
  ·rintro pre x W ⟨hi, hl, hd⟩ hnx
   have hsz : D + 2 ≤ W.heap.size := by have := hlt hl; omega
   refine zgQ hf hrec hl (hen x) hps hpa hpb (round pre x W hi hnx hsz) ?_ ?_
   ·rintro W3 W4 h3 h4 h5 rfl
    have hs3 := hlt h3
    refine .inl ⟨rfl, hI _ _ _ h5 (by omega) ((zaA _ _ _).mono fun b _ h => .inr h), World.putObj_heap_same hs3, ?_⟩
    exact (World.putObj_heap_other (by omega)).trans (h4.trans hd)
   ·rintro c W3 W4 h3 h4 h5 rfl
    have hs3 := hlt h3
    refine .inr ⟨rfl, c, hIx _ _ _ _ h5 (by omega) ((zaA _ _ _).mono fun b _ h => .inr h), World.putObj_heap_same hs3, ?_⟩
    exact (World.putObj_heap_other (by omega)).trans (h4.trans hd)
  ·rintro e W2 ⟨⟨v, rfl⟩, (⟨xs, hS, hi, hl, hd⟩ | ⟨pre, c, hi, hl, hd⟩)⟩
   ·have hsz := hlt hl
    refine ⟨none, _, by have := run_endLoop (P := P) hl (by rw [hrec]; simp); rw [show rec.pending = none from by rw [hrec]] at this; exact this, ?_⟩
    have h1 := done xs (W2.putObj (D + 1) (.loop { rec with state := .exhausted, pending := none })) hS (hI _ _ _ hi (by omega) ((zaA _ _ _).mono fun b _ h => .inr h)) (by rw [zaM]; omega) ((World.putObj_heap_other (by omega)).trans hd)
    exact ⟨⟨fg, .of (D :: dl.toL)⟩, hf, rfl, h1.h hf⟩
   ·have hsz := hlt hl
    refine ⟨some c, _, run_endLoop (P := P) hl (by simp), ?_⟩
    have h1 := stop c pre (W2.putObj (D + 1) (.loop { rec with state := .exhausted, pending := some c })) (hIx _ _ _ _ hi (by omega) ((zaA _ _ _).mono fun b _ h => .inr h)) (by rw [zaM]; omega) ((World.putObj_heap_other (by omega)).trans hd)
    exact (h1.h hf : c.wpX P (LiftE n (after P n t K)) (act n ⟨fg, .of (D :: dl.toL)⟩) _) none (.inl rfl)
end
end Go.Vc
namespace Go.Vc
open Go Go.Pw
theorem YieldS.of {P : Program} {l : Nat} {args : List Value} {w : World} {R K : Value → World → Prop} (h : YieldS P l args w R) (k : ∀ v w', R v w' → K v w') : YieldS P l args w K := by
 obtain ⟨f, tmps, assign, body, h1, h2⟩ := h.h
 exact ⟨f, tmps, assign, body, h1, h2.mono fun e w' ⟨v, e1, e2⟩ => ⟨v, e1, k v w' e2⟩⟩
end Go.Vc
namespace Go.Proofs.YtmjeacpoobbjjaaGreatDoor
open Go.Shelf Go.RowKit Go.Pw Go.Vc Go.Cs Go.Lib Go.Cd
section
variable {w : World}
theorem zcT {z : Int} (h : -9223372036854775808 ≤ z) (h' : z ≤ 9223372036854775807) : IntKind.i64.wrap z = z := by
 unfold IntKind.wrap; simp [IntKind.signed, IntKind.bits]; omega
end
section
end
section
end
section
end
end Go.Proofs.YtmjeacpoobbjjaaGreatDoor
namespace Go.Proofs.YtmjeacpoobbjjaaGreatDoor
open Go.Shelf Go.RowKit Go.Pw Go.Vc Go.Cs Go.Lib Go.Cd Go.Mg
theorem zah {w : World} {B s n q : Nat} {E : TypeId} {v : Value} {xs : List Value} (h : w.ownsRow B E s v n xs) (hq : v.ownBlock = some q) : ∃ cs z, w.heap[q]? = some (.cells cs E z) ∧ B ≤ q ∧ q < w.heap.size := by
 rcases h.2 with ⟨rfl, _⟩ | ⟨g, cap, cur, rfl, hb, hr, _⟩
 ·cases hq
 ·injection hq with e
  subst e
  refine ⟨_, _, hr, hb, ?_⟩
  rcases Nat.lt_or_ge g w.heap.size with h' | h'
  ·exact h'
  ·rw [Array.getElem?_eq_none h'] at hr; cases hr
def CapK (v : Value) : Prop := ∀ a n c, v = .slice a n c → n ≤ c
theorem zeK {w : World} {B s n : Nat} {E : TypeId} {v : Value} {xs : List Value} (h : w.ownsRow B E s v n xs) : CapK v := fun a n' c e => by
 subst e
 rcases h.2 with ⟨h1, h2⟩ | ⟨g, cap', cur, h1, hb, hgg, h3, h4, _⟩
 ·injection h1 with _ h5 h6
  omega
 ·injection h1 with _ h5 h6
  omega
structure Pr where
 p : Pst
 h : Sl
instance : Inhabited Pr := ⟨⟨⟨0, []⟩, ⟨none, 0, 0⟩⟩⟩
def prC (x : Pr) : List Value := [.int .i64 x.p.doc, .slice x.h.a x.h.n x.h.c]
structure RdP (w : World) (v : Value) (lx : List Pr) : Prop where
 row : RowO w v prC lx
 pl : ∀ x ∈ lx, RowI w x.h.v x.p.places
 cap : CapK v
 plc : ∀ x ∈ lx, CapK x.h.v
theorem RdP.keep {w w' : World} {v : Value} {lx : List Pr} (h : RdP w v lx) (k : Kp w w' n_) : RdP w' v lx := ⟨h.row.keep k, fun x hx => (h.pl x hx).keep k, h.cap, h.plc⟩
def RowP (w : World) (v : Value) (l : List Pst) : Prop := ∃ lx, lx.map (·.p) = l ∧ RdP w v lx
theorem RowP.keep {w w' : World} {v : Value} {l : List Pst} (h : RowP w v l) (k : Kp w w' n_) : RowP w' v l := let ⟨lx, h1, h2⟩ := h; ⟨lx, h1, h2.keep k⟩
theorem RowP.shape {w : World} {v : Value} {l : List Pst} (h : RowP w v l) : ∃ a c, v = .slice a l.length c := by
 obtain ⟨lx, h1, h2⟩ := h
 obtain ⟨a, c, e, _⟩ := h2.row
 exact ⟨a, c, by rw [e, ← h1, List.length_map]⟩
end Go.Proofs.YtmjeacpoobbjjaaGreatDoor
namespace Go.Proofs.YtmjeacpoobbjjaaGreatDoor
open Go.Shelf Go.RowKit Go.Pw Go.Vc Go.Cs Go.Lib Go.Tk Go.Hd
def tkC (t : Tkn) : List Value := [.int .i64 (t.1 : Nat), .string (str t.2)]
theorem lenTk (t : Tkn) : (tkC t).length = 2 := rfl
theorem tkInfo : (Tryz.prog.info? 82).map (fun i => (i.zero, i.size, i.bytes)) = some (some (.agg #[.int .i64 0, .string ⟨#[]⟩]), 2, 24) := by kernel_rfl
theorem tyTk : RowTy 78 82 tkC 2 24 := ⟨Tryz.underlying78, ⟨_, tkInfo, rfl⟩, by decide, lenTk, fun x => List.all_eq_true.1 (by rfl)⟩
theorem bs1Tk (t : Tkn) (w : World) : (Instr.buildSlice 78 1 [(0, .agg #[.int .i64 (t.1 : Nat), .string (str t.2)])].toArray).run Tryz.prog w = .ok (.slice (some ⟨w.heap.size, 0, none⟩) 1 1) (w.alloc (.cells (List.toArray (tkC t)) 82)) := by
 simp [Instr.buildSlice, go_sem, Tryz.runUnderlying78, tkC]
theorem zaP (a : Int) (b : ByteArray) (w : World) : (Instr.build 82 [(0, .int .i64 a), (1, .string b)].toArray).run Tryz.prog w = .ok (.agg #[.int .i64 a, .string b]) w := by
 simp [Instr.build, go_sem, Tryz.runUnderlying82]
theorem zaV (s : List UInt8) (n : Nat) : (str s).extract 0 n = str (s.take n) := by rw [zbS]; rfl
theorem zav (s : List UInt8) (n : Nat) : (str s).extract n (str s).size = str (s.drop n) := by rw [zbS, L_str, zae, List.take_length]
theorem zbc (s : List UInt8) (m n : Nat) : (str s).extract m n = str ((s.take n).drop m) := by rw [zbS]; rfl
section
variable {w : World}
def closV (s : List UInt8) (o : Option Nat) : Value :=
 match o with
 | some n => .tuple #[.int .i64 ((n + 1 : Nat) : Int), .bool true]
 | none => .tuple #[.int .i64 (s.length : Nat), .bool false]
theorem zdi (s : List UInt8) (cl : UInt8) (hs : s.length ≤ 1000000000) (h0 : s ≠ []) : Calls Tryz.prog 118 #[.string (str s), .int .u8 cl.toNat] w fun e w' => e = .returned (closV s (closeL cl (s.drop 1) 1)) ∧ Kp w w' n_ := by
 have hz := zae s
 have hl1 : 1 ≤ s.length := List.length_pos_iff.2 h0
 refine zaa (args := [.string (str s), .int .u8 cl.toNat]) Tryz.func118 rfl NL ?_; refine GW ?_
 refine Loop.intro (ι := Nat × Nat) (fun i => [(0, .string (str s)), (1, .int .u8 cl.toNat), (6, .int .i64 (i.2 : Nat)), (7, .int .i64 (i.1 : Nat))])
  (fun i wr => Kp w wr n_ ∧ 1 ≤ i.1 ∧ i.1 ≤ s.length + 1 ∧ 1 ≤ i.2 ∧ i.2 ≤ i.1 ∧ closeL cl (s.drop 1) 1 = (closeL cl (s.drop i.1) i.2).map (· + (i.1 - 1))) (fun i => s.length + 2 - i.1) (1, 1) ⟨rfl, rfl, rfl, rfl, trivial⟩ ⟨Kp.refl _ _, by omega, by dsimp only; omega, by omega, by omega, by simp⟩ ?_
 rintro ⟨k, d⟩ g wr ⟨hK, hk1, hk, hd1, hd, he⟩
 dsimp only at hk1 hk hd1 hd he ⊢
 generalize closeL cl (s.drop 1) 1 = X at *
 refine GW ?_
 by_cases hlt : k < s.length
 ·have hdr : s.drop k = s[k] :: s.drop (k + 1) := List.drop_eq_getElem_cons hlt
  rw [hdr] at he
  refine GO ?_
  rw [zbk hlt]
  generalize s[k] = c at *
  unfold closeL at he
  by_cases h92 : c = 92
  ·rw [if_pos h92] at he
   subst h92
   refine LGO ?_
   by_cases hd0 : (d : Int) = 0
   ·omega
   refine LGO ?_
   refine ⟨(k + 2, d), ⟨rfl, rfl, rfl, v_int (by simp; omega), trivial⟩, ⟨hK, by dsimp only; omega, by dsimp only; omega, hd1, by dsimp only; omega, ?_⟩, by dsimp only; omega⟩
   dsimp only
   rw [he]
   by_cases hlast : k + 1 < s.length
   ·rw [List.drop_eq_getElem_cons hlast]
    dsimp only
    rw [Option.map_map]
    congr 1
    funext x; show x + 2 + (k - 1) = x + (k + 2 - 1); omega
   ·rw [List.drop_eq_nil_of_le (by omega), List.drop_eq_nil_of_le (by omega)]
    simp [closeL]
  rw [if_neg h92] at he
  have n92 : ¬ (c.toNat : Int) = 92 := zaL h92
  by_cases hcl : c = cl
  ·rw [if_pos hcl] at he
   subst hcl
   have heq : (c.toNat : Int) = c.toNat := rfl
   by_cases hd2 : d = 1
   ·subst hd2
    rw [if_pos rfl] at he
    refine LGO ?_
    refine ⟨?_, hK⟩
    rw [he]
    show _ = Ending.returned (.tuple #[.int .i64 ((1 + (k - 1) + 1 : Nat) : Int), .bool true])
    rw [show 1 + (k - 1) + 1 = k + 1 by omega]; rfl
   ·rw [if_neg hd2] at he
    refine LGO ?_
    refine ⟨(k + 1, d - 1), ⟨rfl, rfl, v_int (by simp; omega), v_int (by simp), trivial⟩, ⟨hK, by dsimp only; omega, by dsimp only; omega, by dsimp only; omega, by dsimp only; omega, ?_⟩, by dsimp only; omega⟩
    dsimp only
    rw [he, Option.map_map]
    congr 1
    funext x; show x + 1 + (k - 1) = x + (k + 1 - 1); omega
  rw [if_neg hcl] at he
  have ncl : ¬ (c.toNat : Int) = cl.toNat := zaL hcl
  by_cases h40 : c = 40 ∧ cl = 41
  ·rw [if_pos h40] at he
   obtain ⟨rfl, rfl⟩ := h40
   refine LGO ?_
   refine ⟨(k + 1, d + 1), ⟨rfl, rfl, v_int (by simp), v_int (by simp), trivial⟩, ⟨hK, by dsimp only; omega, by dsimp only; omega, by dsimp only; omega, by dsimp only; omega, ?_⟩, by dsimp only; omega⟩
   dsimp only
   rw [he, Option.map_map]
   congr 1
   funext x; show x + 1 + (k - 1) = x + (k + 1 - 1); omega
  rw [if_neg h40] at he
  have hfin : X = (closeL cl (s.drop (k + 1)) d).map (· + (k + 1 - 1)) := by
   rw [he, Option.map_map]
   congr 1
   funext x; show x + 1 + (k - 1) = x + (k + 1 - 1); omega
  by_cases h4 : c = 40
  ·have hc41 : ¬ cl = 41 := fun e => h40 ⟨h4, e⟩
   have n41 : ¬ (cl.toNat : Int) = 41 := zaL hc41
   subst h4
   refine LGO ?_
   exact ⟨(k + 1, d), ⟨rfl, rfl, rfl, v_int (by simp), trivial⟩, ⟨hK, by dsimp only; omega, by dsimp only; omega, hd1, by dsimp only; omega, hfin⟩, by dsimp only; omega⟩
  ·have n40 : ¬ (c.toNat : Int) = 40 := zaL h4
   refine LGO ?_
   exact ⟨(k + 1, d), ⟨rfl, rfl, rfl, v_int (by simp), trivial⟩, ⟨hK, by dsimp only; omega, by dsimp only; omega, hd1, by dsimp only; omega, hfin⟩, by dsimp only; omega⟩
 ·rw [List.drop_eq_nil_of_le (by omega)] at he
  refine GO ?_
  refine ⟨?_, hK⟩
  rw [he, hz]; rfl
end
section
variable {w : World}
theorem zki (c : UInt8) (r : List UInt8) (hs : r.length ≤ 100000000) : Calls Tryz.prog 81 #[.string (str (c :: r))] w fun e w' => e = .returned (.tuple #[.agg #[.int .i64 ((frontT (c :: r)).1 : Nat), .string (str ((c :: r).take (frontT (c :: r)).2))], .string (str ((c :: r).drop (frontT (c :: r)).2))]) ∧ Kp w w' n_ := by
 have hz : (str (c :: r)).size = r.length + 1 := rfl
 have hft : frontT (c :: r) = if blankT c = true then (6, rowT blankT (c :: r)) else if c = 40 then cloT 3 41 c r else if c = 34 then cloT 2 34 c r else if c = 91 then cloT 5 93 c r else if specT.contains c = true then (4, 1) else if atomT c = true then (1, rowT atomT (c :: r)) else (7, 1) := rfl
 refine zaa (args := [.string (str (c :: r))]) Tryz.func81 rfl NL ?_; refine GW ?_
 obtain ⟨a_b1, v_b1, k_w1, z_w1, r_w1⟩ := new5 w 82 ([.int .i64 0, .string ⟨#[]⟩])
 generalize w.alloc (.cells (List.toArray ([.int .i64 0, .string ⟨#[]⟩])) 82) = w1 at *
 generalize hs_b1 : w.heap.size = b1 at *
 refine KGO ?_
 rw [show byteAt (str (c :: r)) 0 = c from rfl]
 refine CallS.of (Tryz.call115 _ _) (zgK c w1) ?_
 rintro e w2 ⟨rfl, k2⟩
 have K1 := k_w1.trans0 k2
 have vK := v_b1.keep0 k2
 refine RT ?_
 obtain ⟨S, hS⟩ : ∃ S, S = c :: r := ⟨_, rfl⟩
 have hSl : S.length = r.length + 1 := by rw [hS]; rfl
 have hSn : S ≠ [] := by rw [hS]; simp
 have hSd : S.drop 1 = r := by rw [hS]; rfl
 have hb1 : w.heap.size ≤ b1 := by omega
 rw [← hS] at hz hft ⊢
 cases hbl : blankT c
 rotate_left
 ·rw [if_pos hbl] at hft
  rw [hft]
  refine KGO ?_
  refine CallS.of (Tryz.call116 _ _) (zkB S blankT 115 zgK (fun a w => Tryz.call115 a w) (by rw [hS]; simp; omega) w2) ?_
  rintro e w3 ⟨rfl, k3⟩
  refine RT ?_
  have K1 := K1.trans0 k3
  have vK := vK.keep0 k3
  have hrl := zdq blankT S
  generalize rowT blankT S = n at *
  refine KGO ?_
  rw [zaV]
  refine RunV.of (zaP 6 (str (S.take n)) _) ?_
  refine KGO ?_
  rw [zav]
  refine Store.varK [.int .i64 6, .string (str (S.take n))] vK (by rfl) rfl (zaB (by rfl)) fun wS vS kS => ?_
  have aS := vS.at
  have rS := Kp.refl wS n_
  refine KGO ?_
  refine GW ?_
  exact ⟨rfl, zab K1.drew kS hb1⟩
 rw [hbl, if_neg (by simp)] at hft
 by_cases h40 : c = 40
 ·rw [if_pos h40] at hft
  rw [hft]
  subst h40
  refine KGO ?_
  refine CallS.of (Tryz.call118 _ _) (zdi S 41 (by omega) hSn) ?_
  rintro e w3 ⟨rfl, k3⟩
  have K1 := K1.trans0 k3
  have vK := vK.keep0 k3
  rw [hSd]
  unfold cloT
  cases hc : closeL 41 r 1 with
  | none =>
   refine RT ?_
   refine KGO ?_
   rw [hSl]
   refine KGO ?_
   rw [zaV]
   refine RunV.of (zaP 7 (str (S.take (r.length + 1))) _) ?_
   refine KGO ?_
   rw [zav]
   refine Store.varK [.int .i64 7, .string (str (S.take (r.length + 1)))] vK (by rfl) rfl (zaB (by rfl)) fun wS vS kS => ?_
   have aS := vS.at
   have rS := Kp.refl wS n_
   refine KGO ?_
   refine GW ?_
   exact ⟨rfl, zab K1.drew kS hb1⟩
  | some n =>
   have hn := zcd 41 _ r 1 n (Nat.le_refl _) hc
   refine RT ?_
   refine KGO ?_
   rw [zaV]
   refine RunV.of (zaP 3 (str (S.take (n + 1))) _) ?_
   refine KGO ?_
   rw [zav]
   refine Store.varK [.int .i64 3, .string (str (S.take (n + 1)))] vK (by rfl) rfl (zaB (by rfl)) fun wS vS kS => ?_
   have aS := vS.at
   have rS := Kp.refl wS n_
   refine KGO ?_
   refine GW ?_
   exact ⟨rfl, zab K1.drew kS hb1⟩
 rw [if_neg h40] at hft
 have n40 : ¬ (c.toNat : Int) = 40 := zaL h40
 by_cases h34 : c = 34
 ·rw [if_pos h34] at hft
  rw [hft]
  subst h34
  refine KGO ?_
  refine CallS.of (Tryz.call118 _ _) (zdi S 34 (by omega) hSn) ?_
  rintro e w3 ⟨rfl, k3⟩
  have K1 := K1.trans0 k3
  have vK := vK.keep0 k3
  rw [hSd]
  unfold cloT
  cases hc : closeL 34 r 1 with
  | none =>
   refine RT ?_
   refine KGO ?_
   rw [hSl]
   refine KGO ?_
   rw [zaV]
   refine RunV.of (zaP 7 (str (S.take (r.length + 1))) _) ?_
   refine KGO ?_
   rw [zav]
   refine Store.varK [.int .i64 7, .string (str (S.take (r.length + 1)))] vK (by rfl) rfl (zaB (by rfl)) fun wS vS kS => ?_
   have aS := vS.at
   have rS := Kp.refl wS n_
   refine KGO ?_
   refine GW ?_
   exact ⟨rfl, zab K1.drew kS hb1⟩
  | some n =>
   have hn := zcd 34 _ r 1 n (Nat.le_refl _) hc
   refine RT ?_
   refine KGO ?_
   rw [zaV]
   refine RunV.of (zaP 2 (str (S.take (n + 1))) _) ?_
   refine KGO ?_
   rw [zav]
   refine Store.varK [.int .i64 2, .string (str (S.take (n + 1)))] vK (by rfl) rfl (zaB (by rfl)) fun wS vS kS => ?_
   have aS := vS.at
   have rS := Kp.refl wS n_
   refine KGO ?_
   refine GW ?_
   exact ⟨rfl, zab K1.drew kS hb1⟩
 rw [if_neg h34] at hft
 have n34 : ¬ (c.toNat : Int) = 34 := zaL h34
 by_cases h91 : c = 91
 ·rw [if_pos h91] at hft
  rw [hft]
  subst h91
  refine KGO ?_
  refine CallS.of (Tryz.call118 _ _) (zdi S 93 (by omega) hSn) ?_
  rintro e w3 ⟨rfl, k3⟩
  have K1 := K1.trans0 k3
  have vK := vK.keep0 k3
  rw [hSd]
  unfold cloT
  cases hc : closeL 93 r 1 with
  | none =>
   refine RT ?_
   refine KGO ?_
   rw [hSl]
   refine KGO ?_
   rw [zaV]
   refine RunV.of (zaP 7 (str (S.take (r.length + 1))) _) ?_
   refine KGO ?_
   rw [zav]
   refine Store.varK [.int .i64 7, .string (str (S.take (r.length + 1)))] vK (by rfl) rfl (zaB (by rfl)) fun wS vS kS => ?_
   have aS := vS.at
   have rS := Kp.refl wS n_
   refine KGO ?_
   refine GW ?_
   exact ⟨rfl, zab K1.drew kS hb1⟩
  | some n =>
   have hn := zcd 93 _ r 1 n (Nat.le_refl _) hc
   refine RT ?_
   refine KGO ?_
   rw [zaV]
   refine RunV.of (zaP 5 (str (S.take (n + 1))) _) ?_
   refine KGO ?_
   rw [zav]
   refine Store.varK [.int .i64 5, .string (str (S.take (n + 1)))] vK (by rfl) rfl (zaB (by rfl)) fun wS vS kS => ?_
   have aS := vS.at
   have rS := Kp.refl wS n_
   refine KGO ?_
   refine GW ?_
   exact ⟨rfl, zab K1.drew kS hb1⟩
 rw [if_neg h91] at hft
 have n91 : ¬ (c.toNat : Int) = 91 := zaL h91
 refine KGO ?_
 refine CallS.of (Tryz.call63 _ _) (zaG ⟨#[40, 41, 60, 62, 91, 93, 58, 59, 64, 92, 44, 46, 34]⟩ c w2) ?_
 rintro e w3 ⟨rfl, rfl⟩
 refine RT ?_
 have hx := zgZ specT c
 rw [show L ⟨#[40, 41, 60, 62, 91, 93, 58, 59, 64, 92, 44, 46, 34]⟩ = specT from rfl]
 cases hsp : specT.contains c
 rotate_left
 ·have h0 := hx.2 hsp
  rw [if_pos hsp] at hft
  rw [hft]
  refine KGO ?_
  refine Cut.to (h := 1) (by omega) ?_
  refine KGO ?_
  rw [zaV]
  refine RunV.of (zaP 4 (str (S.take 1)) _) ?_
  refine KGO ?_
  refine Cut.from (l := 1) (by omega) (by omega) ?_
  refine KGO ?_
  rw [zav]
  refine Store.varK [.int .i64 4, .string (str (S.take 1))] vK (by rfl) rfl (zaB (by rfl)) fun wS vS kS => ?_
  have aS := vS.at
  have rS := Kp.refl wS n_
  refine KGO ?_
  refine GW ?_
  exact ⟨rfl, zab K1.drew kS hb1⟩
 have h0 : ¬ 0 ≤ Lib.indexByte specT c := fun h => by have := hx.1 h; rw [hsp] at this; cases this
 rw [hsp, if_neg (by simp)] at hft
 refine KGO ?_
 refine CallS.of (Tryz.call117 _ _) (ziS c w2) ?_
 rintro e w3 ⟨rfl, k3⟩
 refine RT ?_
 have K1 := K1.trans0 k3
 have vK := vK.keep0 k3
 cases hat : atomT c
 rotate_left
 ·rw [if_pos hat] at hft
  rw [hft]
  refine KGO ?_
  refine CallS.of (Tryz.call116 _ _) (zkB S atomT 117 ziS (fun a w => Tryz.call117 a w) (by rw [hS]; simp; omega) w3) ?_
  rintro e w4 ⟨rfl, k4⟩
  refine RT ?_
  have K1 := K1.trans0 k4
  have vK := vK.keep0 k4
  have hrl := zdq atomT S
  generalize rowT atomT S = n at *
  refine KGO ?_
  rw [zaV]
  refine RunV.of (zaP 1 (str (S.take n)) _) ?_
  refine KGO ?_
  rw [zav]
  refine Store.varK [.int .i64 1, .string (str (S.take n))] vK (by rfl) rfl (zaB (by rfl)) fun wS vS kS => ?_
  have aS := vS.at
  have rS := Kp.refl wS n_
  refine KGO ?_
  refine GW ?_
  exact ⟨rfl, zab K1.drew kS hb1⟩
 rw [hat, if_neg (by simp)] at hft
 rw [hft]
 refine KGO ?_
 refine Cut.to (h := 1) (by omega) ?_
 refine KGO ?_
 rw [zaV]
 refine RunV.of (zaP 7 (str (S.take 1)) _) ?_
 refine KGO ?_
 refine Cut.from (l := 1) (by omega) (by omega) ?_
 refine KGO ?_
 rw [zav]
 refine Store.varK [.int .i64 7, .string (str (S.take 1))] vK (by rfl) rfl (zaB (by rfl)) fun wS vS kS => ?_
 have aS := vS.at
 have rS := Kp.refl wS n_
 refine KGO ?_
 refine GW ?_
 exact ⟨rfl, zab K1.drew kS hb1⟩
end
end Go.Proofs.YtmjeacpoobbjjaaGreatDoor
