/- Helper lemmas that the proved statement rests on; no conditions of their own. -/
import Derived.Test.YtennokckmjcefaaGreatDoorGNe1
set_option linter.unusedVariables false
set_option maxHeartbeats 8000000
set_option maxRecDepth 100000
namespace Go.Proofs.YtennokckmjcefaaGreatDoor
open Go.RowKit Go.Pw Go.Vc Go.Cs Go.Lib
def VarC (w : World) (b : Nat) (T : TypeId) (cs : List Value) : Prop := w.heap[b]? = some (.cells cs.toArray T (0, 0))
section
variable {w w' : World} {b : Nat} {T : TypeId} {cs : List Value}
theorem VarC.at (h : VarC w b T cs) : At w b 0 cs := fun i v hi => by
 have := zcZ (c := cs.toArray) h i v (by simpa using hi)
 exact this
theorem VarC.lt (h : VarC w b T cs) : b < w.heap.size := by
 rcases Nat.lt_or_ge b w.heap.size with h' | h'
 ·exact h'
 ·unfold VarC at h; rw [Array.getElem?_eq_none h'] at h; cases h
theorem VarC.frozen (h : VarC w b T cs) (i : Nat) : w.frozen? ⟨b, i, none⟩ = false := by
 unfold World.frozen?
 dsimp only
 unfold VarC at h
 rw [h]; rfl
theorem VarC.keep {c : Nat → Prop} (h : VarC w b T cs) (k : Kp w w' c) (hc : ¬ c b) : VarC w' b T cs := (k.block b h.lt hc).trans h
theorem VarC.new (w : World) (T : TypeId) (cs : List Value) : VarC (w.alloc (.cells cs.toArray T)) w.heap.size T cs := heap_alloc_new w _
theorem VarC.set (h : VarC w b T cs) (i : Nat) (v : Value) : VarC (w.setCell ⟨b, i, none⟩ v) b T (cs.set i v) := by
 have := heap_setCell_same w b i cs.toArray T v h
 unfold VarC
 rw [this]; simp
theorem zdf : ∀ (vs : List Value) (i : Nat) (w : World), Kp w (setCells b vs i w) (one_ b)
 | [], i, w => Kp.refl _ _
 | v :: r, i, w => ((Kp.refl w (one_ b)).setCell (p := ⟨b, i, none⟩) (.inl rfl) v).trans' (zdf r (i + 1) _)
theorem VarC.setAll : ∀ (vs pre post : List Value) (w : World), VarC w b T (pre ++ post) → vs.length = post.length → VarC (setCells b vs pre.length w) b T (pre ++ vs)
 | [], pre, post, w, h, hl => by
  have : post = [] := List.eq_nil_of_length_eq_zero (by simpa using hl.symm)
  subst this; exact h
 | v :: r, pre, [], w, h, hl => by simp at hl
 | v :: r, pre, p :: post, w, h, hl => by
  have h1 := h.set pre.length v
  have e : (pre ++ p :: post).set pre.length v = (pre ++ [v]) ++ post := by
   rw [List.set_append_right _ _ (Nat.le_refl _)]; simp
  rw [e] at h1
  have := VarC.setAll r (pre ++ [v]) post _ h1 (by simpa using hl)
  rw [List.length_append] at this
  show VarC (setCells b r (pre.length + 1) _) b T _
  simpa using this
end
theorem Store.var {P : Program} {t T : TypeId} {w : World} {b : Nat} {cs : List Value} (vs : List Value) {K : World → Prop} (h : VarC w b T cs) (hs : sizeOfT P t = some vs.length) (hl : vs.length = cs.length) (hf : ∀ v ∈ vs, Flat v)
  (k : ∀ w', VarC w' b T vs → Kp w w' (one_ b) → K w') : Store P t ⟨b, 0, none⟩ (.agg vs.toArray) w K :=
 Store.agg vs hs hf (fun j hj => ⟨_, h.at j _ (List.getElem?_eq_getElem (by omega))⟩) (fun j => h.frozen j) (k _ (by
  have := VarC.setAll (T := T) (b := b) vs [] cs w h hl
  simpa using this) (zdf vs 0 w))
theorem zdD (a b c : Int) (w : World) : (Instr.build 134 [(0, .int .i64 a), (1, .int .i64 b), (2, .int .i64 c)].toArray).run Tryz.prog w = .ok (.agg #[.int .i64 a, .int .i64 b, .int .i64 c]) w := by
 simp [Instr.build, Instr.fill, go_sem, Tryz.runUnderlying134]
theorem zkP (w : World) : (Instr.build 134 [].toArray).run Tryz.prog w = .ok (.agg #[.int .i64 0, .int .i64 0, .int .i64 0]) w := by
 simp [Instr.build, Instr.fill, go_sem, Tryz.runUnderlying134]
theorem zcG (w : World) : (zeroValue 3).run Tryz.prog w = .ok (.int .i64 0) w := Tryz.zeroValue3 w
def CntOf (ks : List (List UInt8)) (ws : List Wd) (m : SM) : Prop := m.keys.Nodup ∧ ∀ t, m.get (str t) = if cnt ks ws t = 0 then none else some (.int .i64 (cnt ks ws t : Nat))
theorem CntOf.nil (ks : List (List UInt8)) : CntOf ks [] [] := ⟨by simp [SM.keys], fun t => by rw [zqr, if_pos rfl]; rfl⟩
theorem CntOf.len {ks : List (List UInt8)} {ws : List Wd} {m : SM} (h : CntOf ks ws m) : m.length = showsL ks ws := by
 have h1 := zoW ks ws (m.keys.map L) (by
  unfold List.Nodup
  rw [List.pairwise_map]
  exact List.Pairwise.imp (fun {a b} h e => h (by rw [← str_L a, ← str_L b, e])) h.1) (fun t => by
  rw [← zmK]
  have h2 := SM.get_mem m (str t)
  rw [h.2 t] at h2
  constructor
  ·intro ht
   obtain ⟨k, hk, e⟩ := List.mem_map.1 ht
   have e2 : k = str t := by rw [← e, str_L]
   subst e2
   intro h0
   rw [if_pos h0, decide_eq_true hk] at h2
   cases h2
  ·intro h0
   rw [if_neg h0] at h2
   have hk : str t ∈ m.keys := of_decide_eq_true h2.symm
   exact List.mem_map.2 ⟨str t, hk, L_str t⟩)
 rw [← h1, List.length_map]; unfold SM.keys; rw [List.length_map]
theorem CntOf.add {ks : List (List UInt8)} {ws : List Wd} {m : SM} (h : CntOf ks ws m) (x : Wd) (hx : x.1 ∈ ks) : CntOf ks (ws ++ [x]) (m.put (str x.1) (.int .i64 ((cnt ks ws x.1 + 1 : Nat) : Int))) :=
 ⟨SM.nodup_put _ _ _ h.1, fun t => by
  have hc := zkm ks x ws t
  rw [SM.get_put, h.2 t]
  by_cases e : t = x.1
  ·subst e
   rw [if_pos ⟨rfl, hx⟩] at hc
   rw [if_pos rfl, hc, if_neg (Nat.succ_ne_zero _)]
  ·rw [if_neg (fun h => e h.1.symm), Nat.add_zero] at hc
   rw [if_neg (fun h => e (zbY.1 h)), hc]⟩
theorem CntOf.skip {ks : List (List UInt8)} {ws : List Wd} {m : SM} (h : CntOf ks ws m) (x : Wd) (hx : ¬ x.1 ∈ ks) : CntOf ks (ws ++ [x]) m :=
 ⟨h.1, fun t => by
  have hc := zkm ks x ws t
  have hno : ¬ (x.1 = t ∧ t ∈ ks) := fun h => hx (h.1 ▸ h.2)
  rw [if_neg hno, Nat.add_zero] at hc
  rw [h.2 t, hc]⟩
theorem CntOf.look {ks : List (List UInt8)} {ws : List Wd} {m : SM} (h : CntOf ks ws m) (t : List UInt8) : (m.get (str t)).getD (.int .i64 0) = .int .i64 (cnt ks ws t : Nat) := by
 rw [h.2 t]
 split
 ·rename_i h0; rw [h0]; rfl
 ·rfl
theorem CntOf.less {ks : List (List UInt8)} {x : Wd} {ws : List Wd} {m : SM} (h : CntOf ks (x :: ws) m) (h1 : 1 < cnt ks (x :: ws) x.1) : CntOf ks ws (m.put (str x.1) (.int .i64 ((cnt ks (x :: ws) x.1 - 1 : Nat) : Int))) :=
 ⟨SM.nodup_put _ _ _ h.1, fun t => by
  have hx : x.1 ∈ ks := ((zmK ks _ x.1).1 (fun h => by rw [h] at h1; cases h1)).1
  have hc := cnt_cons ks x ws t
  rw [SM.get_put, h.2 t]
  by_cases e : t = x.1
  ·subst e
   rw [if_pos ⟨rfl, hx⟩] at hc
   have hne : ¬ cnt ks ws x.1 = 0 := by omega
   rw [if_pos rfl, if_neg hne, show cnt ks (x :: ws) x.1 - 1 = cnt ks ws x.1 by omega]
  ·rw [if_neg (fun h => e h.1.symm), Nat.zero_add] at hc
   rw [if_neg (fun h => e (zbY.1 h)), hc]⟩
theorem CntOf.drop {ks : List (List UInt8)} {x : Wd} {ws : List Wd} {m : SM} (h : CntOf ks (x :: ws) m) (h1 : ¬ 1 < cnt ks (x :: ws) x.1) : CntOf ks ws (m.del (str x.1)) :=
 ⟨SM.nodup_del _ _ h.1, fun t => by
  have hc := cnt_cons ks x ws t
  by_cases e : t = x.1
  ·subst e
   rw [SM.get_del_same _ _ h.1]
   by_cases hx : x.1 ∈ ks
   ·rw [if_pos ⟨rfl, hx⟩] at hc
    rw [if_pos (by omega)]
   ·have h0 : cnt ks ws x.1 = 0 := by unfold cnt; rw [if_neg hx]
    rw [if_pos h0]
  ·rw [SM.get_del_ne _ _ _ (fun h => e (zbY.1 h)), h.2 t]
   rw [if_neg (fun h => e h.1.symm), Nat.zero_add] at hc
   rw [hc]⟩
section
variable {w : World}
def winCells (ks : List (List UInt8)) (l : List Wd) (width : Int) : Option Nat → List Value
 | none => [.int .i64 0, .int .i64 0, .int .i64 0]
 | some f => [.int .i64 (f : Nat), .int .i64 (winE l width f : Nat), .int .i64 (showsL ks (winW l width f) : Nat)]
theorem zaY (l : List Wd) (i j : Nat) (hj : j ≤ l.length) : i + 1 < l.length ∨ j ≤ i + 1 := by omega
theorem zbI (ks : List (List UInt8)) (l : List Wd) (width : Int) (f : Nat) : winCells ks l width (some f) = [.int .i64 (f : Nat), .int .i64 (winE l width f : Nat), .int .i64 (showsL ks (winW l width f) : Nat)] := rfl
theorem zaA (ks : List (List UInt8)) (l : List Wd) (width : Int) (o : Option Nat) : (winCells ks l width o).length = 3 := by cases o <;> rfl
theorem zbo (ks : List (List UInt8)) (l : List Wd) (width : Int) (o : Option Nat) : ∀ v ∈ winCells ks l width o, Flat v := by
 intro v hv
 cases o <;> (simp only [winCells, List.mem_cons, List.not_mem_nil, or_false] at hv; rcases hv with rfl | rfl | rfl <;> trivial)
theorem zhu (ks : List (List UInt8)) (ws : List Wd) : showsL ks ws ≤ ws.length := by
 unfold showsL
 have key : ∀ (ws : List Wd) (seen : List (List UInt8)), (seenL ks ws seen).length ≤ seen.length + ws.length := by
  intro ws
  induction ws with
  | nil => intro seen; simp [seenL]
  | cons x r ih =>
   intro seen
   rw [seenL]
   have := ih (if x.1 ∈ ks ∧ ¬ x.1 ∈ seen then seen ++ [x.1] else seen)
   have h2 : (if x.1 ∈ ks ∧ ¬ x.1 ∈ seen then seen ++ [x.1] else seen).length ≤ seen.length + 1 := by split <;> simp
   simp only [List.length_cons]; omega
 have := key ws []
 simpa using this
structure BSt (ks : List (List UInt8)) (l : List Wd) (width : Int) (w0 w : World) (bf : Option Nat) (mm : SM) : Prop where
 k : Kp w0 w n_
 v6 : VarC w w0.heap.size 134 [.int .i64 0, .int .i64 0, .int .i64 0]
 v8 : VarC w (w0.heap.size + 1) 134 (winCells ks l width bf)
 mp : SMap w (w0.heap.size + 2) mm
section
variable {ks : List (List UInt8)} {l : List Wd} {width : Int} {w0 w w' : World} {bf bf' : Option Nat} {mm m' : SM}
theorem BSt.keep (h : BSt ks l width w0 w bf mm) (k : Kp w w' n_) : BSt ks l width w0 w' bf mm := ⟨h.k.trans0 k, h.v6.keep k id, h.v8.keep k id, h.mp.keep k id⟩
theorem BSt.map (h : BSt ks l width w0 w bf mm) (hm : SMap w' (w0.heap.size + 2) m') (k : Kp w w' (one_ (w0.heap.size + 2))) : BSt ks l width w0 w' bf m' :=
 ⟨h.k.trans k fun i hi e => by
  have e : i = w0.heap.size + 2 := e
  omega, h.v6.keep k (fun e => by have e : w0.heap.size = w0.heap.size + 2 := e; omega), h.v8.keep k (fun e => by have e : w0.heap.size + 1 = w0.heap.size + 2 := e; omega), hm⟩
theorem BSt.win (h : BSt ks l width w0 w bf mm) (hv : VarC w' (w0.heap.size + 1) 134 (winCells ks l width bf')) (k : Kp w w' (one_ (w0.heap.size + 1))) : BSt ks l width w0 w' bf' mm :=
 ⟨h.k.trans k fun i hi e => by
  have e : i = w0.heap.size + 1 := e
  omega, h.v6.keep k (fun e => by have e : w0.heap.size = w0.heap.size + 1 := e; omega), hv, h.mp.keep k (fun e => by have e : w0.heap.size + 2 = w0.heap.size + 1 := e; omega)⟩
end
theorem zqz {v : Value} {b N : Nat} {m : SM} (l : List Wd) (ks : List (List UInt8)) (width : Int) (hw : -9223372036854775808 ≤ width ∧ width ≤ 9223372036854775807) (hv : Rd w v l.length (l.flatMap wordCells)) (hm : SMap w b m) (hset : SetOf ks m)
  (ho : InOrder l N) (hN : N ≤ 100000000) (hl : l.length ≤ 100000000) :
  Calls Tryz.prog 113 #[v, .map (some b), .int .i64 width] w fun e w' => ∃ x y z, e = .returned (.tuple #[.agg #[.int .i64 x, .int .i64 y, .int .i64 z], .bool (bestN ks l width l.length).isSome]) ∧
   (∀ f, bestN ks l width l.length = some f → x = (f : Nat) ∧ y = (winE l width f : Nat)) ∧ Kp w w' n_ := by
 obtain ⟨a, cap, rfl, hr⟩ := hv
 refine zaa (args := [.slice a l.length cap, .map (some b), .int .i64 width]) Tryz.func113 rfl NL ?_; refine GW ?_
 have v6 := VarC.new w 134 [.int .i64 0, .int .i64 0, .int .i64 0]
 have k6 : Kp w (w.alloc (.cells [Value.int .i64 0, .int .i64 0, .int .i64 0].toArray 134)) n_ := (Kp.refl _ _).alloc _
 have z6 : (w.alloc (.cells [Value.int .i64 0, .int .i64 0, .int .i64 0].toArray 134)).heap.size = w.heap.size + 1 := by simp
 have eq6 : w.alloc (.cells #[Value.int .i64 0, .int .i64 0, .int .i64 0] 134) = w.alloc (.cells [Value.int .i64 0, .int .i64 0, .int .i64 0].toArray 134) := rfl
 rw [eq6]
 generalize w.alloc (.cells [Value.int .i64 0, .int .i64 0, .int .i64 0].toArray 134) = w1 at *
 refine RunV.of (zkP _) ?_
 refine GW ?_
 refine Store.fresh (vs := [.int .i64 0, .int .i64 0, .int .i64 0]) (by rfl) rfl (by simp [Flat]) ?_
 have v8 := VarC.new w1 134 [.int .i64 0, .int .i64 0, .int .i64 0]
 have k8 : Kp w1 (w1.alloc (.cells [Value.int .i64 0, .int .i64 0, .int .i64 0].toArray 134)) n_ := (Kp.refl _ _).alloc _
 have z8 : (w1.alloc (.cells [Value.int .i64 0, .int .i64 0, .int .i64 0].toArray 134)).heap.size = w.heap.size + 2 := by simp [z6]
 generalize w1.alloc (.cells [Value.int .i64 0, .int .i64 0, .int .i64 0].toArray 134) = w2 at *
 refine GW ?_
 refine RunV.newMap rfl ?_
 have hm10 := SMap.new w2
 have k10 : Kp w2 (w2.alloc (.map #[] 0)) n_ := (Kp.refl _ _).alloc _
 generalize w2.alloc (.map #[] 0) = w3 at *
 rw [z6, z8] at *
 have hB0 : BSt ks l width w w3 none [] := ⟨(k6.trans0 k8).trans0 k10, (v6.keep k8 id).keep k10 id, v8.keep k10 id, hm10⟩
 refine GO ?_
 refine Loop.intro (ι := Nat × Nat × SM × Option Nat) (fun i => [(0, .slice a l.length cap), (1, .map (some b)), (2, .int .i64 width), (6, .pointer (some ⟨w.heap.size, 0, none⟩)), (8, .pointer (some ⟨w.heap.size + 1, 0, none⟩)), (9, .bool i.2.2.2.isSome), (10, .map (some (w.heap.size + 2))), (11, .int .i64 (i.2.1 : Nat)), (17, .slice a l.length cap), (18, .int .i64 (l.length : Nat)), (19, .int .i64 (i.1 : Nat))])
  (fun i wr => BSt ks l width w wr i.2.2.2 i.2.2.1 ∧ i.1 ≤ i.2.1 ∧ i.2.1 ≤ l.length ∧ CntOf ks (cutW l i.1 i.2.1) i.2.2.1 ∧ Fits l width i.1 i.2.1 ∧ bestN ks l width i.1 = i.2.2.2) (fun i => l.length - i.1) (0, 0, [], none)
  ⟨rfl, rfl, rfl, rfl, rfl, rfl, rfl, rfl, rfl, rfl, rfl, trivial⟩ ⟨hB0, Nat.le_refl _, Nat.zero_le _, CntOf.nil ks, fun k h1 h2 => by dsimp only at h1 h2; omega, rfl⟩ ?_
 rintro ⟨i, j0, m0, bf⟩ gg wr ⟨hB, hij0, hj0, hcnt0, hfit0, hbest⟩
 dsimp only at hB hij0 hj0 hcnt0 hfit0 hbest ⊢
 refine GW ?_
 by_cases hlt : i < l.length
 ·obtain ⟨g, rfl, hg, hat⟩ := hr (by omega)
  have ci := zec (zaG hat hB.k) hlt
  have hoi := ho.each i hlt
  have hfi : fromOf l i = l[i].2.1 := by unfold fromOf; rw [List.getD_eq_getElem?_getD, List.getElem?_eq_getElem hlt]; rfl
  refine GO ?_
  refine Load.agg (wordCells l[i]) (by rfl) (by rfl) (by rfl) ci ?_
  refine GO ?_
  refine Store.fresh (vs := wordCells l[i]) (by rfl) rfl (wordFlat _) ?_
  have vw := VarC.new wr 116 (wordCells l[i])
  have kw : Kp wr (wr.alloc (.cells (wordCells l[i]).toArray 116)) n_ := (Kp.refl _ _).alloc _
  have hBw := hB.keep kw
  generalize wr.alloc (.cells (wordCells l[i]).toArray 116) = wA at *
  generalize hbw : wr.heap.size = bw at *
  refine GO ?_
  refine Loop.intro (ι := Nat × SM) (fun k => [(0, .slice (some ⟨g, 0, none⟩) l.length cap), (1, .map (some b)), (2, .int .i64 width), (6, .pointer (some ⟨w.heap.size, 0, none⟩)), (8, .pointer (some ⟨w.heap.size + 1, 0, none⟩)), (9, .bool bf.isSome), (10, .map (some (w.heap.size + 2))), (11, .int .i64 (k.1 : Nat)), (12, .int .i64 (i : Nat)), (13, .pointer (some ⟨bw, 0, none⟩)), (17, .slice (some ⟨g, 0, none⟩) l.length cap), (18, .int .i64 (l.length : Nat)), (19, .int .i64 (i : Nat))])
   (fun k w1 => BSt ks l width w w1 bf k.2 ∧ i ≤ k.1 ∧ k.1 ≤ l.length ∧ CntOf ks (cutW l i k.1) k.2 ∧ Fits l width i k.1 ∧ VarC w1 bw 116 (wordCells l[i])) (fun k => l.length - k.1) (j0, m0)
   ⟨rfl, rfl, rfl, rfl, rfl, rfl, rfl, rfl, rfl, rfl, rfl, rfl, rfl, trivial⟩ ⟨hBw, hij0, hj0, hcnt0, hfit0, vw⟩ ?_
  rintro ⟨j, m1⟩ g4 w1 ⟨hB1, hij, hj, hcnt1, hfit, vw1⟩
  dsimp only at hB1 hij hj hcnt1 hfit ⊢
  clear hcnt0 hfit0 hBw
  refine GW ?_
  by_cases hlt2 : j < l.length
  ·have cj := zec (zaG hat hB1.k) hlt2
   have hoj := ho.each j hlt2
   have htj : toOf l j = l[j].2.2 := by unfold toOf; rw [List.getD_eq_getElem?_getD, List.getElem?_eq_getElem hlt2]; rfl
   have d1 : w1.drew.cell? ⟨g, 0 + j * 3 + 2, none⟩ = some (.int .i64 (l[j].2.2 : Nat)) := cj 2 _ rfl
   have d2 : w1.drew.cell? ⟨bw, 0 + 1, none⟩ = some (.int .i64 (l[i].2.1 : Nat)) := vw1.at 1 _ rfl
   have hB1 := hB1.keep ((Kp.refl w1 n_).drew)
   have vw1 := vw1.keep ((Kp.refl w1 n_).drew) id
   have d0 : w1.drew.cell? ⟨g, 0 + j * 3, none⟩ = some (.string (str l[j].1)) := cj 0 _ rfl
   by_cases hft : ((l[j].2.2 : Nat) : Int) - ((l[i].2.1 : Nat) : Int) ≤ width
   ·have hmb := hm.keep hB1.k id
    have hfit2 : Fits l width i (j + 1) := fun k h1 h2 => by
     rcases (show k < j ∨ k = j by omega) with h3 | h3
     ·exact hfit k h1 h3
     ·subst h3; rw [htj, hfi]; exact hft
    have hsn := znd l i j hij hlt2
    refine GO ?_
    refine RunV.look Tryz.underlying131 Tryz.underlying9 (zhz _) hmb _ ?_
    rw [hset l[j].1]
    by_cases hk : l[j].1 ∈ ks
    ·rw [if_pos hk]
     refine GO ?_
     refine RunV.look Tryz.underlying188 Tryz.underlying9 (zcG _) hB1.mp _ ?_
     rw [hcnt1.look]
     have hcl := ziA ks (cutW l i j) l[j].1
     rw [zcV l i j hj] at hcl
     refine GO ?_
     rw [show ((cnt ks (cutW l i j) l[j].1 : Nat) : Int) + 1 = ((cnt ks (cutW l i j) l[j].1 + 1 : Nat) : Int) by omega]
     refine RunU.upd Tryz.underlying188 Tryz.underlying9 hB1.mp (str l[j].1) _ fun w6 hm6 k6' => ?_
     refine GO ?_
     exact ⟨(j + 1, _), ⟨rfl, rfl, rfl, rfl, rfl, rfl, rfl, v_int (by simp), rfl, rfl, rfl, rfl, rfl, trivial⟩, ⟨hB1.map hm6 k6', by dsimp only; omega, by dsimp only; omega, by dsimp only; rw [hsn]; exact hcnt1.add _ hk, hfit2, vw1.keep k6' (by intro e; have e : bw = w.heap.size + 2 := e; have := hB.mp.lt; omega)⟩, by dsimp only; omega⟩
    ·rw [if_neg hk]
     refine GO ?_
     exact ⟨(j + 1, m1), ⟨rfl, rfl, rfl, rfl, rfl, rfl, rfl, v_int (by simp), rfl, rfl, rfl, rfl, rfl, trivial⟩, ⟨hB1, by dsimp only; omega, by dsimp only; omega, by dsimp only; rw [hsn]; exact hcnt1.skip _ hk, hfit2, vw1⟩, by dsimp only; omega⟩
   ·have hE : winE l width i = j := zgA l width i j hij hj hfit (fun _ => by rw [htj, hfi]; exact hft)
    have hE2 : winW l width i = cutW l i j := by unfold winW cutW; rw [hE]
    by_cases hgt : i < j
    ·have hcutc := zhn l i j hgt hj
     have hcle := ziA ks (cutW l i j) l[i].1
     rw [zcV l i j hj] at hcle
     have cw1 := vw1.at 0 _ rfl
     have hsl := zhu ks (cutW l i j)
     rw [zcV l i j hj] at hsl
     cases hbf : bf with
     | none =>
      subst hbf
      have hbn : bestN ks l width (i + 1) = some i := by rw [bestN, hbest]; dsimp only; rw [if_pos (by omega)]
      refine GO ?_
      refine RunN.mapLen Tryz.underlying188 hB1.mp ?_
      refine GO ?_
      refine RunV.of (zdD _ _ _ _) ?_
      refine GO ?_
      rw [hcnt1.len]
      have hwc : (Value.agg #[.int .i64 (i : Nat), .int .i64 (j : Nat), .int .i64 (showsL ks (cutW l i j) : Nat)]) = .agg (winCells ks l width (some i)).toArray := by rw [zbI, hE2, hE]
      rw [hwc]
      refine Store.var (winCells ks l width (some i)) hB1.v8 (by rfl) (by rw [zaA, zaA]) (zbo _ _ _ _) fun w5 v5 k5 => ?_
      have hB2 := hB1.win v5 k5
      have hcnt2 := hcnt1
      have vw2 := vw1.keep k5 (by intro e; have e : bw = w.heap.size + 1 := e; have := hB.mp.lt; omega)
      have cw2 := vw2.at 0 _ rfl
      refine GO ?_
      refine RunV.look Tryz.underlying188 Tryz.underlying9 (zcG _) hB2.mp _ ?_
      rw [hcnt2.look]
      refine GO ?_
      rw [hcutc] at hcnt2
      by_cases h1c : 1 < cnt ks (l[i] :: cutW l (i + 1) j) l[i].1
      ·have h1c2 : 1 < cnt ks (cutW l i j) l[i].1 := by rw [hcutc]; exact h1c
       refine GO ?_
       rw [show ((cnt ks (cutW l i j) l[i].1 : Nat) : Int) - 1 = ((cnt ks (l[i] :: cutW l (i + 1) j) l[i].1 - 1 : Nat) : Int) by rw [hcutc]; omega]
       refine RunU.upd Tryz.underlying188 Tryz.underlying9 hB2.mp (str l[i].1) _ fun w6 hm6 k6 => ?_
       refine GO ?_
       exact ⟨(i + 1, j, _, (some i)), ⟨rfl, rfl, rfl, rfl, rfl, rfl, rfl, rfl, rfl, rfl, v_int (by simp), trivial⟩, ⟨hB2.map hm6 k6, by dsimp only; omega, hj, hcnt2.less h1c, zaX ho (zaY l i j hj) hfit, hbn⟩, by dsimp only; omega⟩
      ·have h1c2 : ¬ 1 < cnt ks (cutW l i j) l[i].1 := by rw [hcutc]; exact h1c
       refine GO ?_
       refine RunN.mapDel Tryz.underlying188 Tryz.underlying9 hB2.mp (str l[i].1) fun w6 hm6 k6 => ?_
       refine GO ?_
       exact ⟨(i + 1, j, _, (some i)), ⟨rfl, rfl, rfl, rfl, rfl, rfl, rfl, rfl, rfl, rfl, v_int (by simp), trivial⟩, ⟨hB2.map hm6 k6, by dsimp only; omega, hj, hcnt2.drop h1c, zaX ho (zaY l i j hj) hfit, hbn⟩, by dsimp only; omega⟩
     | some f =>
      subst hbf
      have hB1v := hB1.v8.at 2 _ rfl
      refine GO ?_
      refine RunN.mapLen Tryz.underlying188 hB1.mp ?_
      rw [hcnt1.len]
      by_cases hgr : showsL ks (winW l width f) < showsL ks (cutW l i j)
      ·have hbn : bestN ks l width (i + 1) = some i := by rw [bestN, hbest]; dsimp only; rw [if_pos ⟨by omega, by rw [hE2]; exact hgr⟩]
       refine GO ?_
       refine RunN.mapLen Tryz.underlying188 hB1.mp ?_
       refine GO ?_
       refine RunV.of (zdD _ _ _ _) ?_
       refine GO ?_
       rw [hcnt1.len]
       have hwc : (Value.agg #[.int .i64 (i : Nat), .int .i64 (j : Nat), .int .i64 (showsL ks (cutW l i j) : Nat)]) = .agg (winCells ks l width (some i)).toArray := by rw [zbI, hE2, hE]
       rw [hwc]
       refine Store.var (winCells ks l width (some i)) hB1.v8 (by rfl) (by rw [zaA, zaA]) (zbo _ _ _ _) fun w5 v5 k5 => ?_
       have hB2 := hB1.win v5 k5
       have hcnt2 := hcnt1
       have vw2 := vw1.keep k5 (by intro e; have e : bw = w.heap.size + 1 := e; have := hB.mp.lt; omega)
       have cw2 := vw2.at 0 _ rfl
       refine GO ?_
       refine RunV.look Tryz.underlying188 Tryz.underlying9 (zcG _) hB2.mp _ ?_
       rw [hcnt2.look]
       refine GO ?_
       rw [hcutc] at hcnt2
       by_cases h1c : 1 < cnt ks (l[i] :: cutW l (i + 1) j) l[i].1
       ·have h1c2 : 1 < cnt ks (cutW l i j) l[i].1 := by rw [hcutc]; exact h1c
        refine GO ?_
        rw [show ((cnt ks (cutW l i j) l[i].1 : Nat) : Int) - 1 = ((cnt ks (l[i] :: cutW l (i + 1) j) l[i].1 - 1 : Nat) : Int) by rw [hcutc]; omega]
        refine RunU.upd Tryz.underlying188 Tryz.underlying9 hB2.mp (str l[i].1) _ fun w6 hm6 k6 => ?_
        refine GO ?_
        exact ⟨(i + 1, j, _, (some i)), ⟨rfl, rfl, rfl, rfl, rfl, rfl, rfl, rfl, rfl, rfl, v_int (by simp), trivial⟩, ⟨hB2.map hm6 k6, by dsimp only; omega, hj, hcnt2.less h1c, zaX ho (zaY l i j hj) hfit, hbn⟩, by dsimp only; omega⟩
       ·have h1c2 : ¬ 1 < cnt ks (cutW l i j) l[i].1 := by rw [hcutc]; exact h1c
        refine GO ?_
        refine RunN.mapDel Tryz.underlying188 Tryz.underlying9 hB2.mp (str l[i].1) fun w6 hm6 k6 => ?_
        refine GO ?_
        exact ⟨(i + 1, j, _, (some i)), ⟨rfl, rfl, rfl, rfl, rfl, rfl, rfl, rfl, rfl, rfl, v_int (by simp), trivial⟩, ⟨hB2.map hm6 k6, by dsimp only; omega, hj, hcnt2.drop h1c, zaX ho (zaY l i j hj) hfit, hbn⟩, by dsimp only; omega⟩
      ·have hbn : bestN ks l width (i + 1) = some f := by rw [bestN, hbest]; dsimp only; rw [if_neg (fun h => hgr (by rw [← hE2]; exact h.2))]
       have hB2 := hB1
       have hcnt2 := hcnt1
       have cw2 := cw1
       refine GO ?_
       refine GO ?_
       refine RunV.look Tryz.underlying188 Tryz.underlying9 (zcG _) hB2.mp _ ?_
       rw [hcnt2.look]
       refine GO ?_
       rw [hcutc] at hcnt2
       by_cases h1c : 1 < cnt ks (l[i] :: cutW l (i + 1) j) l[i].1
       ·have h1c2 : 1 < cnt ks (cutW l i j) l[i].1 := by rw [hcutc]; exact h1c
        refine GO ?_
        rw [show ((cnt ks (cutW l i j) l[i].1 : Nat) : Int) - 1 = ((cnt ks (l[i] :: cutW l (i + 1) j) l[i].1 - 1 : Nat) : Int) by rw [hcutc]; omega]
        refine RunU.upd Tryz.underlying188 Tryz.underlying9 hB2.mp (str l[i].1) _ fun w6 hm6 k6 => ?_
        refine GO ?_
        exact ⟨(i + 1, j, _, (some f)), ⟨rfl, rfl, rfl, rfl, rfl, rfl, rfl, rfl, rfl, rfl, v_int (by simp), trivial⟩, ⟨hB2.map hm6 k6, by dsimp only; omega, hj, hcnt2.less h1c, zaX ho (zaY l i j hj) hfit, hbn⟩, by dsimp only; omega⟩
       ·have h1c2 : ¬ 1 < cnt ks (cutW l i j) l[i].1 := by rw [hcutc]; exact h1c
        refine GO ?_
        refine RunN.mapDel Tryz.underlying188 Tryz.underlying9 hB2.mp (str l[i].1) fun w6 hm6 k6 => ?_
        refine GO ?_
        exact ⟨(i + 1, j, _, (some f)), ⟨rfl, rfl, rfl, rfl, rfl, rfl, rfl, rfl, rfl, rfl, v_int (by simp), trivial⟩, ⟨hB2.map hm6 k6, by dsimp only; omega, hj, hcnt2.drop h1c, zaX ho (zaY l i j hj) hfit, hbn⟩, by dsimp only; omega⟩
    ·have hji : j = i := by omega
     subst hji
     have hbn : bestN ks l width (j + 1) = bf := by
      rw [bestN, hbest]
      cases bf with
      | none => dsimp only; rw [if_neg (by omega)]
      | some f => dsimp only; rw [if_neg (by omega)]
     rw [zjx] at hcnt1
     refine GO ?_
     exact ⟨(j + 1, j + 1, m1, bf), ⟨rfl, rfl, rfl, rfl, rfl, rfl, rfl, v_int (by simp), rfl, rfl, v_int (by simp), trivial⟩, ⟨hB1, Nat.le_refl _, by dsimp only; omega, by dsimp only; rw [zjx]; exact hcnt1, fun k h1 h2 => by dsimp only at h1 h2; omega, hbn⟩, by dsimp only; omega⟩
  ·have hE : winE l width i = j := zgA l width i j hij hj hfit (fun h => (hlt2 h).elim)
   have hB1 := hB1.keep ((Kp.refl w1 n_).drew)
   have vw1 := vw1.keep ((Kp.refl w1 n_).drew) id
   have hE2 : winW l width i = cutW l i j := by unfold winW cutW; rw [hE]
   by_cases hgt : i < j
   ·have hcutc := zhn l i j hgt hj
    have hcle := ziA ks (cutW l i j) l[i].1
    rw [zcV l i j hj] at hcle
    have cw1 := vw1.at 0 _ rfl
    have hsl := zhu ks (cutW l i j)
    rw [zcV l i j hj] at hsl
    cases hbf : bf with
    | none =>
     subst hbf
     have hbn : bestN ks l width (i + 1) = some i := by rw [bestN, hbest]; dsimp only; rw [if_pos (by omega)]
     refine GO ?_
     refine RunN.mapLen Tryz.underlying188 hB1.mp ?_
     refine GO ?_
     refine RunV.of (zdD _ _ _ _) ?_
     refine GO ?_
     rw [hcnt1.len]
     have hwc : (Value.agg #[.int .i64 (i : Nat), .int .i64 (j : Nat), .int .i64 (showsL ks (cutW l i j) : Nat)]) = .agg (winCells ks l width (some i)).toArray := by rw [zbI, hE2, hE]
     rw [hwc]
     refine Store.var (winCells ks l width (some i)) hB1.v8 (by rfl) (by rw [zaA, zaA]) (zbo _ _ _ _) fun w5 v5 k5 => ?_
     have hB2 := hB1.win v5 k5
     have hcnt2 := hcnt1
     have vw2 := vw1.keep k5 (by intro e; have e : bw = w.heap.size + 1 := e; have := hB.mp.lt; omega)
     have cw2 := vw2.at 0 _ rfl
     refine GO ?_
     refine RunV.look Tryz.underlying188 Tryz.underlying9 (zcG _) hB2.mp _ ?_
     rw [hcnt2.look]
     refine GO ?_
     rw [hcutc] at hcnt2
     by_cases h1c : 1 < cnt ks (l[i] :: cutW l (i + 1) j) l[i].1
     ·have h1c2 : 1 < cnt ks (cutW l i j) l[i].1 := by rw [hcutc]; exact h1c
      refine GO ?_
      rw [show ((cnt ks (cutW l i j) l[i].1 : Nat) : Int) - 1 = ((cnt ks (l[i] :: cutW l (i + 1) j) l[i].1 - 1 : Nat) : Int) by rw [hcutc]; omega]
      refine RunU.upd Tryz.underlying188 Tryz.underlying9 hB2.mp (str l[i].1) _ fun w6 hm6 k6 => ?_
      refine GO ?_
      exact ⟨(i + 1, j, _, (some i)), ⟨rfl, rfl, rfl, rfl, rfl, rfl, rfl, rfl, rfl, rfl, v_int (by simp), trivial⟩, ⟨hB2.map hm6 k6, by dsimp only; omega, hj, hcnt2.less h1c, zaX ho (zaY l i j hj) hfit, hbn⟩, by dsimp only; omega⟩
     ·have h1c2 : ¬ 1 < cnt ks (cutW l i j) l[i].1 := by rw [hcutc]; exact h1c
      refine GO ?_
      refine RunN.mapDel Tryz.underlying188 Tryz.underlying9 hB2.mp (str l[i].1) fun w6 hm6 k6 => ?_
      refine GO ?_
      exact ⟨(i + 1, j, _, (some i)), ⟨rfl, rfl, rfl, rfl, rfl, rfl, rfl, rfl, rfl, rfl, v_int (by simp), trivial⟩, ⟨hB2.map hm6 k6, by dsimp only; omega, hj, hcnt2.drop h1c, zaX ho (zaY l i j hj) hfit, hbn⟩, by dsimp only; omega⟩
    | some f =>
     subst hbf
     have hB1v := hB1.v8.at 2 _ rfl
     refine GO ?_
     refine RunN.mapLen Tryz.underlying188 hB1.mp ?_
     rw [hcnt1.len]
     by_cases hgr : showsL ks (winW l width f) < showsL ks (cutW l i j)
     ·have hbn : bestN ks l width (i + 1) = some i := by rw [bestN, hbest]; dsimp only; rw [if_pos ⟨by omega, by rw [hE2]; exact hgr⟩]
      refine GO ?_
      refine RunN.mapLen Tryz.underlying188 hB1.mp ?_
      refine GO ?_
      refine RunV.of (zdD _ _ _ _) ?_
      refine GO ?_
      rw [hcnt1.len]
      have hwc : (Value.agg #[.int .i64 (i : Nat), .int .i64 (j : Nat), .int .i64 (showsL ks (cutW l i j) : Nat)]) = .agg (winCells ks l width (some i)).toArray := by rw [zbI, hE2, hE]
      rw [hwc]
      refine Store.var (winCells ks l width (some i)) hB1.v8 (by rfl) (by rw [zaA, zaA]) (zbo _ _ _ _) fun w5 v5 k5 => ?_
      have hB2 := hB1.win v5 k5
      have hcnt2 := hcnt1
      have vw2 := vw1.keep k5 (by intro e; have e : bw = w.heap.size + 1 := e; have := hB.mp.lt; omega)
      have cw2 := vw2.at 0 _ rfl
      refine GO ?_
      refine RunV.look Tryz.underlying188 Tryz.underlying9 (zcG _) hB2.mp _ ?_
      rw [hcnt2.look]
      refine GO ?_
      rw [hcutc] at hcnt2
      by_cases h1c : 1 < cnt ks (l[i] :: cutW l (i + 1) j) l[i].1
      ·have h1c2 : 1 < cnt ks (cutW l i j) l[i].1 := by rw [hcutc]; exact h1c
       refine GO ?_
       rw [show ((cnt ks (cutW l i j) l[i].1 : Nat) : Int) - 1 = ((cnt ks (l[i] :: cutW l (i + 1) j) l[i].1 - 1 : Nat) : Int) by rw [hcutc]; omega]
       refine RunU.upd Tryz.underlying188 Tryz.underlying9 hB2.mp (str l[i].1) _ fun w6 hm6 k6 => ?_
       refine GO ?_
       exact ⟨(i + 1, j, _, (some i)), ⟨rfl, rfl, rfl, rfl, rfl, rfl, rfl, rfl, rfl, rfl, v_int (by simp), trivial⟩, ⟨hB2.map hm6 k6, by dsimp only; omega, hj, hcnt2.less h1c, zaX ho (zaY l i j hj) hfit, hbn⟩, by dsimp only; omega⟩
      ·have h1c2 : ¬ 1 < cnt ks (cutW l i j) l[i].1 := by rw [hcutc]; exact h1c
       refine GO ?_
       refine RunN.mapDel Tryz.underlying188 Tryz.underlying9 hB2.mp (str l[i].1) fun w6 hm6 k6 => ?_
       refine GO ?_
       exact ⟨(i + 1, j, _, (some i)), ⟨rfl, rfl, rfl, rfl, rfl, rfl, rfl, rfl, rfl, rfl, v_int (by simp), trivial⟩, ⟨hB2.map hm6 k6, by dsimp only; omega, hj, hcnt2.drop h1c, zaX ho (zaY l i j hj) hfit, hbn⟩, by dsimp only; omega⟩
     ·have hbn : bestN ks l width (i + 1) = some f := by rw [bestN, hbest]; dsimp only; rw [if_neg (fun h => hgr (by rw [← hE2]; exact h.2))]
      have hB2 := hB1
      have hcnt2 := hcnt1
      have cw2 := cw1
      refine GO ?_
      refine GO ?_
      refine RunV.look Tryz.underlying188 Tryz.underlying9 (zcG _) hB2.mp _ ?_
      rw [hcnt2.look]
      refine GO ?_
      rw [hcutc] at hcnt2
      by_cases h1c : 1 < cnt ks (l[i] :: cutW l (i + 1) j) l[i].1
      ·have h1c2 : 1 < cnt ks (cutW l i j) l[i].1 := by rw [hcutc]; exact h1c
       refine GO ?_
       rw [show ((cnt ks (cutW l i j) l[i].1 : Nat) : Int) - 1 = ((cnt ks (l[i] :: cutW l (i + 1) j) l[i].1 - 1 : Nat) : Int) by rw [hcutc]; omega]
       refine RunU.upd Tryz.underlying188 Tryz.underlying9 hB2.mp (str l[i].1) _ fun w6 hm6 k6 => ?_
       refine GO ?_
       exact ⟨(i + 1, j, _, (some f)), ⟨rfl, rfl, rfl, rfl, rfl, rfl, rfl, rfl, rfl, rfl, v_int (by simp), trivial⟩, ⟨hB2.map hm6 k6, by dsimp only; omega, hj, hcnt2.less h1c, zaX ho (zaY l i j hj) hfit, hbn⟩, by dsimp only; omega⟩
      ·have h1c2 : ¬ 1 < cnt ks (cutW l i j) l[i].1 := by rw [hcutc]; exact h1c
       refine GO ?_
       refine RunN.mapDel Tryz.underlying188 Tryz.underlying9 hB2.mp (str l[i].1) fun w6 hm6 k6 => ?_
       refine GO ?_
       exact ⟨(i + 1, j, _, (some f)), ⟨rfl, rfl, rfl, rfl, rfl, rfl, rfl, rfl, rfl, rfl, v_int (by simp), trivial⟩, ⟨hB2.map hm6 k6, by dsimp only; omega, hj, hcnt2.drop h1c, zaX ho (zaY l i j hj) hfit, hbn⟩, by dsimp only; omega⟩
   ·exfalso; omega
 ·have hie : i = l.length := by omega
  subst hie
  refine GO ?_
  refine Load.agg (winCells ks l width bf) (by rfl) (by rfl) (by rw [zaA]; rfl) hB.v8.at ?_
  refine GO ?_
  refine Store.var (winCells ks l width bf) hB.v6 (by rw [zaA]; rfl) (by rw [zaA]; rfl) (zbo _ _ _ _) fun w5 v5 k5 => ?_
  refine GO ?_
  refine Load.agg (winCells ks l width bf) (by rfl) (by rfl) (by rw [zaA]; rfl) v5.at ?_
  refine GW ?_
  have K5 : Kp w w5 n_ := hB.k.trans k5 fun i hi e => by
   have e : i = w.heap.size := e
   omega
  rw [hbest]
  cases bf with
  | none => exact ⟨0, 0, 0, rfl, fun f h => (by cases h), K5⟩
  | some f => exact ⟨_, _, _, rfl, fun f' h => (by injection h with h; subst h; exact ⟨rfl, rfl⟩), K5⟩
end
section
variable {w : World}
theorem zkL (s : ByteArray) (hs : s.size ≤ 100000000) : Calls Tryz.prog 169 #[.string s] w fun e w' => ∃ v, e = .returned v ∧ Txs w' w.heap.size v (units (L s)) ∧ Kp w w' n_ := by
 have hl := L_len s
 refine zaa (args := [.string s]) Tryz.func169 rfl NL ?_; refine GW ?_
 refine GO ?_
 refine RunV.rangeS Tryz.underlying9 ?_
 have hi0 := heap_alloc_new w (.stringIter s 0)
 have k0 : Kp w (w.alloc (.stringIter s 0)) n_ := (Kp.refl _ _).alloc _
 have z0 : (w.alloc (.stringIter s 0)).heap.size = w.heap.size + 1 := by simp
 generalize w.alloc (.stringIter s 0) = w1 at *
 refine GW ?_
 refine Loop.intro (ι := Nat × Nat × Option Addr × Nat × List (List UInt8)) (fun i => [(0, .string s), (3, .slice i.2.2.1 i.2.2.2.2.length i.2.2.2.1), (4, .int .i64 (i.2.1 : Nat)), (7, .pointer (some ⟨w.heap.size, 0, none⟩))])
  (fun i wr => Kp w wr n_ ∧ wr.heap[w.heap.size]? = some (.stringIter s i.1) ∧ i.1 ≤ s.size ∧ i.2.1 ≤ i.1 ∧ Txs wr (w.heap.size + 1) (.slice i.2.2.1 i.2.2.2.2.length i.2.2.2.1) i.2.2.2.2 ∧ units (L s) = i.2.2.2.2 ++ units ((L s).drop i.2.1) ∧
   i.2.2.2.2.length ≤ i.2.1 ∧ w.heap.size + 1 ≤ wr.heap.size ∧ ((i.1 = 0 ∧ i.2.1 = 0) ∨ (i.2.1 < s.size ∧ i.1 = i.2.1 + (decodeL ((L s).drop i.2.1)).2))) (fun i => s.size - i.1) (0, 0, none, 0, []) ⟨rfl, rfl, rfl, rfl, trivial⟩
  ⟨k0, hi0, Nat.zero_le _, Nat.le_refl _, World.ownsRow_nil _ _ _ _, rfl, Nat.le_refl _, by omega, .inl ⟨rfl, rfl⟩⟩ ?_
 rintro ⟨n, last, a, cap, d⟩ g wr ⟨hK, hi, hn, hla, hv, he, hd, hsz, hst⟩
 dsimp only at hi hn hla hv he hd hst ⊢
 refine GW ?_
 have hw := decodeL_width ((L s).drop last)
 have hnr : ∀ k, (Value.slice a d.length cap).ownBlock = some k → w.heap.size + 1 ≤ k := fun k hk => (hv.lt k hk).1
 by_cases hlt : n < s.size
 ·refine RunV.nextS hi hlt ?_
  have hne : (L s).drop n ≠ [] := fun e => by
   have := congrArg List.length e
   rw [List.length_drop, List.length_nil] at this; omega
  have hle := decodeL_le _ hne
  have hwn := decodeL_width ((L s).drop n)
  rw [List.length_drop] at hle
  have ks := zbf (w := wr) (b := w.heap.size) (.stringIter s (n + (decodeL ((L s).drop n)).2))
  have hi2 := zcw (w := wr) (b := w.heap.size) (.stringIter s (n + (decodeL ((L s).drop n)).2)) (by omega)
  have K2 : Kp w (setO wr w.heap.size (.stringIter s (n + (decodeL ((L s).drop n)).2))) n_ := hK.trans ks fun i hi e => by
   have e : i = w.heap.size := e
   omega
  have hv2 : Txs (setO wr w.heap.size (.stringIter s (n + (decodeL ((L s).drop n)).2))) (w.heap.size + 1) (.slice a d.length cap) d := zaj hv ks fun k hk e => by
   have e : k = w.heap.size := e
   have := hnr k hk; omega
  have s2 := ks.size
  generalize setO wr w.heap.size (.stringIter s (n + (decodeL ((L s).drop n)).2)) = w2 at *
  by_cases h0 : last < n
  ·have hst2 : last < s.size ∧ n = last + (decodeL ((L s).drop last)).2 := by omega
   have hne2 : (L s).drop last ≠ [] := fun e => by
    have := congrArg List.length e
    rw [List.length_drop, List.length_nil] at this; omega
   rw [zcT _ hne2, List.drop_drop, ← hst2.2] at he
   have hx : s.extract last n = str (((L s).drop last).take (decodeL ((L s).drop last)).2) := by
    rw [← str_L (s.extract last n), L_extract, show (decodeL ((L s).drop last)).2 = n - last by omega, List.take_drop, show last + (n - last) = n by omega]
   generalize ((L s).drop last).take (decodeL ((L s).drop last)).2 = u at *
   refine GO ?_
   rw [hx]
   refine RunV.of (zbM _ _) ?_
   refine GW ?_
   refine zgw hv2 (by omega) u (by omega) fun v' w3 h3 g3 => ?_
   obtain ⟨a3, c3, rfl⟩ : ∃ a c, v' = .slice a (d ++ [u]).length c := zab h3
   have kg := Kp.ofGrown g3
   have ka := ((Kp.refl w2 n_).alloc (.cells #[sv u] 9))
   have K3 : Kp w w3 n_ := (K2.alloc _).own (zac hv2 ((Kp.refl _ _).alloc _)) (Nat.le_succ _) g3
   have hi3 : w3.heap[w.heap.size]? = some (.stringIter s (n + (decodeL ((L s).drop n)).2)) :=
    (kg.block w.heap.size (by have := ka.size; omega) (fun e => by have := hnr _ e; omega)).trans ((ka.block w.heap.size (by omega) id).trans hi2)
   refine GO ?_
   exact ⟨(n + (decodeL ((L s).drop n)).2, n, a3, c3, d ++ [u]), ⟨rfl, rfl, rfl, rfl, trivial⟩, ⟨K3, hi3, by dsimp only; omega, by dsimp only; omega, h3, by dsimp only; rw [he]; simp, by simp; omega, by have := kg.size; have := ka.size; omega, .inr ⟨hlt, rfl⟩⟩, by dsimp only; omega⟩
  ·have hl0 : last = n := by omega
   subst hl0
   have h00 : last = 0 := by omega
   refine GO ?_
   exact ⟨(last + (decodeL ((L s).drop last)).2, last, a, cap, d), ⟨rfl, rfl, rfl, rfl, trivial⟩, ⟨K2, hi2, by dsimp only; omega, by dsimp only; omega, hv2, he, hd, by omega, .inr ⟨hlt, rfl⟩⟩, by dsimp only; omega⟩
 ·refine RunV.nextE hi hlt ?_
  have hnn : n = s.size := by omega
  by_cases hl2 : last < s.size
  ·have hst2 : n = last + (decodeL ((L s).drop last)).2 := by omega
   have hne2 : (L s).drop last ≠ [] := fun e => by
    have := congrArg List.length e
    rw [List.length_drop, List.length_nil] at this; omega
   rw [zcT _ hne2, List.drop_drop, ← hst2, hnn, show (L s).drop s.size = [] from List.drop_eq_nil_of_le (by omega), zhx] at he
   have hx : s.extract last s.size = str (((L s).drop last).take (decodeL ((L s).drop last)).2) := by
    rw [← str_L (s.extract last s.size), L_extract, show (decodeL ((L s).drop last)).2 = s.size - last by omega, List.take_drop, show last + (s.size - last) = s.size by omega]
   generalize ((L s).drop last).take (decodeL ((L s).drop last)).2 = u at *
   refine GO ?_
   rw [hx]
   refine RunV.of (zbM _ _) ?_
   refine GW ?_
   refine zgw hv hsz u (by omega) fun v' w3 h3 g3 => ?_
   obtain ⟨a3, c3, rfl⟩ : ∃ a c, v' = .slice a (d ++ [u]).length c := zab h3
   have K3 : Kp w w3 n_ := (hK.alloc _).own (zac hv ((Kp.refl _ _).alloc _)) (Nat.le_succ _) g3
   refine GO ?_
   refine ⟨_, rfl, ?_, K3⟩
   rw [he]
   exact zaz h3 (Nat.le_succ _)
  ·refine GO ?_
   refine ⟨_, rfl, ?_, hK⟩
   rw [he, show (L s).drop last = [] from List.drop_eq_nil_of_le (by omega), zhx, List.append_nil]
   exact zaz hv (Nat.le_succ _)
theorem zhA : ∀ (us : List (List UInt8)) (n : Nat) (width : Int), n ≤ startN us n width ∧ startN us n width ≤ n + us.flatten.length
 | [], n, _ => by simp [startN]
 | u :: r, n, width => by
  rw [startN]
  split
  ·have := zhA r (n + u.length) width
   simp only [List.flatten_cons, List.length_append]; omega
  ·simp
theorem zob (s : ByteArray) (width : Int) (hw : -9223372036854775808 ≤ width ∧ width ≤ 9223372036854775807) (hs : s.size ≤ 100000000) : Calls Tryz.prog 114 #[.string s, .int .i64 width] w fun e w' => e = .returned (.string (str ((L s).take (startN (units (L s)) 0 width)))) ∧ Kp w w' n_ := by
 have hl := L_len s
 have hul := zlq (L s)
 have hsl := (zhA (units (L s)) 0 width).2
 have hfl := zkV (L s)
 rw [hfl] at hsl
 refine zaa (args := [.string s, .int .i64 width]) Tryz.func114 rfl NL ?_; refine GW ?_
 refine CallS.of (Tryz.call169 _ _) (zkL (w := w) s hs) ?_
 rintro e w1 ⟨v1, rfl, hU, k1⟩
 generalize units (L s) = U at *
 obtain ⟨au, cu, rfl, hrd⟩ := zjh hU
 refine RT ?_
 refine GO ?_
 refine Loop.intro (ι := Nat × Nat) (fun i => [(0, .string s), (1, .int .i64 width), (5, .int .i64 (i.2 : Nat)), (9, .slice au U.length cu), (10, .int .i64 (U.length : Nat)), (11, .int .i64 (i.1 : Nat))])
  (fun i wr => wr = w1 ∧ i.1 ≤ U.length ∧ startN (U.drop i.1) i.2 width = startN U 0 width ∧ i.2 = (U.take i.1).flatten.length) (fun i => U.length - i.1) (0, 0) ⟨rfl, rfl, rfl, rfl, rfl, rfl, trivial⟩
  ⟨rfl, Nat.zero_le _, rfl, rfl⟩ ?_
 rintro ⟨i, n⟩ g wr ⟨rfl, hi, hst, hn⟩
 dsimp only at hi hst hn ⊢
 have htot : (U.take i).flatten.length + (U.drop i).flatten.length = (L s).length := by rw [← List.length_append, ← List.flatten_append, List.take_append_drop, hfl]
 refine GW ?_
 have hx : s.extract 0 (startN U 0 width) = str ((L s).take (startN U 0 width)) := by rw [← str_L (s.extract 0 _), L_to]
 by_cases hlt : i < U.length
 ·obtain ⟨gu, rfl, hg, hat⟩ := hrd (by omega)
  have c1 := zma hat hlt
  have hstep : (U.take (i + 1)).flatten.length = (U.take i).flatten.length + U[i].length := by rw [List.take_succ_eq_append_getElem hlt, List.flatten_append, List.length_append, List.flatten_cons, List.flatten_nil, List.append_nil]
  have htot2 : U[i].length ≤ (U.drop i).flatten.length := by rw [List.drop_eq_getElem_cons hlt, List.flatten_cons, List.length_append]; omega
  rw [List.drop_eq_getElem_cons hlt, startN] at hst
  generalize U[i] = u at *
  have hsz : (str u).size = u.length := zey u
  by_cases hfit : ((n + u.length : Nat) : Int) ≤ width
  ·rw [if_pos hfit] at hst
   refine GO ?_
   exact ⟨(i + 1, n + u.length), ⟨rfl, rfl, v_int (by rw [hsz]; simp), rfl, rfl, v_int (by simp), trivial⟩, ⟨rfl, by dsimp only; omega, hst, by dsimp only; omega⟩, by dsimp only; omega⟩
  ·rw [if_neg hfit] at hst
   subst hst
   refine GO ?_
   rw [hx]
   exact ⟨rfl, k1⟩
 ·rw [show U.drop i = [] from List.drop_eq_nil_of_le (by omega), startN] at hst
  subst hst
  refine GO ?_
  rw [hx]
  exact ⟨rfl, k1⟩
end
end Go.Proofs.YtennokckmjcefaaGreatDoor
