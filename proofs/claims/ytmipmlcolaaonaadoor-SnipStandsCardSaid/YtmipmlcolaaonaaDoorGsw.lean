/- Helper text of this claim: Sw1, Sw2: lemmas and contracts that the proved statement rests on; no conditions of its own. -/
import Derived.Test.YtmipmlcolaaonaaDoorCw15
import Derived.Test.YtmipmlcolaaonaaDoorGsn
import Derived.Test.YtmipmlcolaaonaaDoorWcz
-- alias Tryd
namespace Go.Proofs.YtmipmlcolaaonaaDoor
open Go.RowKit Go.Pw Go.Vc Go.Cs Go.Lib
set_option linter.unusedVariables false
set_option maxRecDepth 100000
/-- A row that can be read, at any place of its block. -/
def RdO (w : World) (v : Value) (n : Nat) (xs : List Value) : Prop := ∃ a cap, v = .slice a n cap ∧ (0 < n → ∃ g o, a = some ⟨g, o, none⟩ ∧ g < w.heap.size ∧ At w g o xs)
theorem Rd.toO {w : World} {v : Value} {n : Nat} {xs : List Value} (h : Rd w v n xs) : RdO w v n xs := by
  obtain ⟨a, cap, rfl, h⟩ := h
  exact ⟨a, cap, rfl, fun h0 => let ⟨g, h1, h2, h3⟩ := h h0; ⟨g, 0, h1, h2, h3⟩⟩
theorem RdO.keep {w w' : World} {v : Value} {n : Nat} {xs : List Value} (h : RdO w v n xs) (k : Keeps w w' none_) : RdO w' v n xs := by
  obtain ⟨a, cap, rfl, h⟩ := h
  exact ⟨a, cap, rfl, fun h0 => let ⟨g, o, h1, h3, h4⟩ := h h0; ⟨g, o, h1, Nat.lt_of_lt_of_le h3 k.size, at_keep h4 k⟩⟩
theorem at_keepc {w w' : World} {b o : Nat} {vs : List Value} {c : Nat → Prop} (h : At w b o vs) (k : Keeps w w' c) (hc : ¬ c b) : At w' b o vs := fun i v hi => by
  have := h i v hi
  rw [k.cell (cell_lt this) hc]; exact this
theorem at_textO {w : World} {g o : Nat} {l : List (List UInt8)} (h : At w g o (l.map sv)) {i : Nat} (hi : i < l.length) : w.cell? ⟨g, o + i, none⟩ = some (.string (str l[i])) := h i _ (by rw [List.getElem?_map, List.getElem?_eq_getElem hi]; rfl)
theorem at_wordO {w : World} {g o : Nat} {l : List Wd} (h : At w g o (l.flatMap wordCells)) {i : Nat} (hi : i < l.length) : At w g (o + i * 3) (wordCells l[i]) := fun j v hj => by
  have h3 : j < 3 := (List.getElem?_eq_some_iff.1 hj).1
  rw [Nat.add_assoc]
  exact h (i * 3 + j) v ((flat_get wordCells 3 (fun _ => rfl) l i j _ (List.getElem?_eq_getElem hi) h3).trans hj)
/-- The set of the sought terms. -/
def SetOf (ks : List (List UInt8)) (m : SM) : Prop := ∀ t, m.get (str t) = if t ∈ ks then some (.bool true) else none
theorem SetOf.nil : SetOf [] [] := fun t => by simp [SM.get]
theorem SetOf.put {ks : List (List UInt8)} {m : SM} (h : SetOf ks m) (x : List UInt8) : SetOf (ks ++ [x]) (m.put (str x) (.bool true)) := fun t => by
  rw [SM.get_put, h t]
  by_cases e : t = x
  · subst e; simp
  · rw [if_neg (fun h => e (str_inj.1 h))]
    by_cases hk : t ∈ ks <;> simp [hk, e]
theorem zero_bool (w : World) : (zeroValue 4).run Tryd.prog w = .ok (.bool false) w := Tryd.zeroValue4 w
theorem sought_snoc (ws : List (List UInt8)) (i : Nat) (hi : i < ws.length) : soughtL (ws.take (i + 1)) = soughtL (ws.take i) ++ listL ws[i] := by
  unfold soughtL listL
  rw [List.take_succ_eq_append_getElem hi, List.flatMap_append]; simp
section
variable {w : World}
set_option maxHeartbeats 2000000 in
theorem sn_sought {v : Value} (ws : List (List UInt8)) (hv : RdO w v ws.length (ws.map sv)) (hC : CutTab w) (hF : FoldTab w) (hl : ws.length ≤ 1000) (hs : ∀ x ∈ ws, x.length ≤ 10000) :
    Calls Tryd.prog 79 #[v] w fun e w' => ∃ b m, e = .returned (.map (some b)) ∧ w.heap.size ≤ b ∧ SMap w' b m ∧ SetOf (soughtL ws) m ∧ Keeps w w' none_ := by
  obtain ⟨a, cap, rfl, hr⟩ := hv
  refine calls_of_vc (args := [.slice a ws.length cap]) Tryd.func79 rfl (Nat.le_of_ble_eq_true rfl) ?_; refine Sat.go hmix ?_; conv => whnf
  refine RunV.newMap rfl ?_
  have hm0 := SMap.new w
  have k0 : Keeps w (w.alloc (.map #[] 0)) none_ := (Keeps.refl _ _).alloc _
  generalize w.alloc (.map #[] 0) = w1 at *
  refine GO ?_
  have hb : ∀ {x y : World}, Keeps w x none_ → Keeps x y (one_ w.heap.size) → Keeps w y none_ := fun h k => h.trans k fun i hi e => by
    have e : i = w.heap.size := e
    omega
  refine Loop.intro (ι := Nat × SM) (fun i => [(3, .map (some w.heap.size)), (9, .slice a ws.length cap), (10, .int .i64 (ws.length : Nat)), (11, .int .i64 (i.1 : Nat))])
    (fun i wr => Keeps w wr none_ ∧ i.1 ≤ ws.length ∧ SMap wr w.heap.size i.2 ∧ SetOf (soughtL (ws.take i.1)) i.2) (fun i => ws.length - i.1) (0, []) ⟨rfl, rfl, rfl, rfl, trivial⟩
    ⟨k0, Nat.zero_le _, hm0, SetOf.nil⟩ ?_
  rintro ⟨i, m⟩ gg wr ⟨hK, hi, hm, hset⟩
  dsimp only at hi hm hset ⊢
  (first | refine Then.go hmix ?_ | refine Sat.go hmix ?_ | refine ResK.go ?_ | skip); conv => whnf
  by_cases hlt : i < ws.length
  · obtain ⟨g, o, rfl, hg, hat⟩ := hr (by omega)
    have c1 := at_textO (at_keep hat hK) hlt
    have hx := hs ws[i] (List.getElem_mem hlt)
    have hsn := sought_snoc ws i hlt
    generalize ws[i] = x at *
    refine GO ?_
    refine CallS.of (Tryd.call39 _ _) (cut_List (str x) (hC.keep hK) (hF.keep hK) (by rw [str_size]; omega)) ?_
    rintro e w2 ⟨v2, rfl, hT, k2⟩
    rw [L_str] at hT
    have hll : (listL x).length ≤ 100000 := by
      unfold listL
      rw [List.length_map]
      have := wordsL_len x
      omega
    generalize listL x = T at *
    obtain ⟨at2, ct2, rfl⟩ := own_shape hT
    refine ⟨_, rfl, ?_⟩; (first | refine Then.go hmix ?_ | refine Sat.go hmix ?_ | refine ResK.go ?_ | skip); conv => whnf
    refine GO ?_
    refine Loop.intro (ι := Nat × SM) (fun k => [(3, .map (some w.heap.size)), (9, .slice (some ⟨g, o, none⟩) ws.length cap), (10, .int .i64 (ws.length : Nat)), (11, .int .i64 (i : Nat)), (16, .slice at2 T.length ct2), (17, .int .i64 (T.length : Nat)), (18, .int .i64 (k.1 : Nat))])
      (fun k wr => Keeps w2 wr (one_ w.heap.size) ∧ k.1 ≤ T.length ∧ SMap wr w.heap.size k.2 ∧ SetOf (soughtL (ws.take i) ++ T.take k.1) k.2) (fun k => T.length - k.1) (0, m) ⟨rfl, rfl, rfl, rfl, rfl, rfl, rfl, trivial⟩
      ⟨Keeps.refl _ _, Nat.zero_le _, hm.keep k2 id, by simpa using hset⟩ ?_
    rintro ⟨k, m2⟩ g3 w3 ⟨hK3, hk, hm2, hset2⟩
    dsimp only at hk hm2 hset2 ⊢
    (first | refine Then.go hmix ?_ | refine Sat.go hmix ?_ | refine ResK.go ?_ | skip); conv => whnf
    by_cases hlt2 : k < T.length
    · obtain ⟨gT, rfl, hgb, hgT, hatT⟩ := own_at hT (by omega)
      have hne : ¬ one_ w.heap.size gT := fun e => by
        have e : gT = w.heap.size := e
        have := hm.lt
        omega
      have c3 := at_text (at_keepc hatT hK3 hne) hlt2
      have hst : T.take (k + 1) = T.take k ++ [T[k]] := List.take_succ_eq_append_getElem hlt2
      generalize T[k] = y at *
      refine GO ?_
      refine RunU.upd Tryd.underlying90 Tryd.underlying9 hm2 (str y) (.bool true) fun w4 hm4 k4 => ?_
      refine GO ?_
      exact ⟨(k + 1, m2.put (str y) (.bool true)), ⟨rfl, rfl, rfl, rfl, rfl, rfl, v_int (by simp), trivial⟩, ⟨hK3.trans' k4, by dsimp only; omega, hm4, by dsimp only; rw [hst, ← List.append_assoc]; exact hset2.put y⟩, by dsimp only; omega⟩
    · refine GO ?_
      have e : k = T.length := by omega
      subst e
      rw [List.take_length] at hset2
      exact ⟨(i + 1, m2), ⟨rfl, rfl, rfl, v_int (by simp), trivial⟩, ⟨hb (hK.trans0 k2) hK3, by dsimp only; omega, hm2, by dsimp only; rw [hsn]; exact hset2⟩, by dsimp only; omega⟩
  · refine GO ?_
    have e : i = ws.length := by omega
    subst e
    rw [List.take_length] at hset
    exact ⟨_, m, rfl, Nat.le_refl _, hm, hset, hK⟩
end
end Go.Proofs.YtmipmlcolaaonaaDoor

-- alias Tryd
namespace Go.Proofs.YtmipmlcolaaonaaDoor
open Go.RowKit Go.Pw Go.Vc Go.Cs Go.Lib
set_option linter.unusedVariables false
set_option maxRecDepth 100000
/-- A variable of several cells, in a block of its own. -/
def VarC (w : World) (b : Nat) (T : TypeId) (cs : List Value) : Prop := w.heap[b]? = some (.cells cs.toArray T (0, 0))
section
variable {w w' : World} {b : Nat} {T : TypeId} {cs : List Value}
theorem VarC.at (h : VarC w b T cs) : At w b 0 cs := fun i v hi => by
  have := at_cells (c := cs.toArray) h i v (by simpa using hi)
  exact this
theorem VarC.lt (h : VarC w b T cs) : b < w.heap.size := by
  rcases Nat.lt_or_ge b w.heap.size with h' | h'
  · exact h'
  · unfold VarC at h; rw [Array.getElem?_eq_none h'] at h; cases h
theorem VarC.frozen (h : VarC w b T cs) (i : Nat) : w.frozen? ⟨b, i, none⟩ = false := by
  unfold World.frozen?
  dsimp only
  unfold VarC at h
  rw [h]; rfl
theorem VarC.keep {c : Nat → Prop} (h : VarC w b T cs) (k : Keeps w w' c) (hc : ¬ c b) : VarC w' b T cs := (k.block b h.lt hc).trans h
theorem VarC.new (w : World) (T : TypeId) (cs : List Value) : VarC (w.alloc (.cells cs.toArray T)) w.heap.size T cs := heap_alloc_new w _
theorem VarC.set (h : VarC w b T cs) (i : Nat) (v : Value) : VarC (w.setCell ⟨b, i, none⟩ v) b T (cs.set i v) := by
  have := heap_setCell_same w b i cs.toArray T v h
  unfold VarC
  rw [this]; simp
theorem setCells_keeps : ∀ (vs : List Value) (i : Nat) (w : World), Keeps w (setCells b vs i w) (one_ b)
  | [], i, w => Keeps.refl _ _
  | v :: r, i, w => ((Keeps.refl w (one_ b)).setCell (p := ⟨b, i, none⟩) (.inl rfl) v).trans' (setCells_keeps r (i + 1) _)
theorem VarC.setAll : ∀ (vs pre post : List Value) (w : World), VarC w b T (pre ++ post) → vs.length = post.length → VarC (setCells b vs pre.length w) b T (pre ++ vs)
  | [], pre, post, w, h, hl => by
    have : post = [] := List.eq_nil_of_length_eq_zero (by simpa using hl.symm)
    subst this; exact h
  | v :: r, pre, [], w, h, hl => by simp at hl
  | v :: r, pre, p :: post, w, h, hl => by
    have h1 := h.set pre.length v
    have e : (pre ++ p :: post).set pre.length v = (pre ++ [v]) ++ post := by
      rw [List.set_append_right _ _ (Nat.le_refl _)]; simp
    rw [e] at h1
    have := VarC.setAll r (pre ++ [v]) post _ h1 (by simpa using hl)
    rw [List.length_append] at this
    show VarC (setCells b r (pre.length + 1) _) b T _
    simpa using this
end
/-- Store of a struct over the whole of its variable. -/
theorem Store.var {P : Program} {t T : TypeId} {w : World} {b : Nat} {cs : List Value} (vs : List Value) {K : World → Prop} (h : VarC w b T cs) (hs : sizeOfT P t = some vs.length) (hl : vs.length = cs.length) (hf : ∀ v ∈ vs, Flat v)
    (k : ∀ w', VarC w' b T vs → Keeps w w' (one_ b) → K w') : Store P t ⟨b, 0, none⟩ (.agg vs.toArray) w K :=
  Store.agg vs hs hf (fun j hj => ⟨_, h.at j _ (List.getElem?_eq_getElem (by omega))⟩) (fun j => h.frozen j) (k _ (by
    have := VarC.setAll (T := T) (b := b) vs [] cs w h hl
    simpa using this) (setCells_keeps vs 0 w))
theorem build_win (a b c : Int) (w : World) : (Instr.build 93 [(0, .int .i64 a), (1, .int .i64 b), (2, .int .i64 c)].toArray).run Tryd.prog w = .ok (.agg #[.int .i64 a, .int .i64 b, .int .i64 c]) w := by
  simp [Instr.build, Instr.fill, go_sem, Tryd.runUnderlying93]
theorem build_win0 (w : World) : (Instr.build 93 [].toArray).run Tryd.prog w = .ok (.agg #[.int .i64 0, .int .i64 0, .int .i64 0]) w := by
  simp [Instr.build, Instr.fill, go_sem, Tryd.runUnderlying93]
theorem zero_int (w : World) : (zeroValue 3).run Tryd.prog w = .ok (.int .i64 0) w := Tryd.zeroValue3 w
/-- The counts of the sought terms. -/
def CntOf (ks : List (List UInt8)) (ws : List Wd) (m : SM) : Prop := m.keys.Nodup ∧ ∀ t, m.get (str t) = if cnt ks ws t = 0 then none else some (.int .i64 (cnt ks ws t : Nat))
theorem CntOf.nil (ks : List (List UInt8)) : CntOf ks [] [] := ⟨by simp [SM.keys], fun t => by rw [cnt_nil, if_pos rfl]; rfl⟩
theorem CntOf.len {ks : List (List UInt8)} {ws : List Wd} {m : SM} (h : CntOf ks ws m) : m.length = showsL ks ws := by
  have h1 := shows_of ks ws (m.keys.map L) (by
    unfold List.Nodup
    rw [List.pairwise_map]
    exact List.Pairwise.imp (fun {a b} h e => h (by rw [← str_L a, ← str_L b, e])) h.1) (fun t => by
    rw [← cnt_pos]
    have h2 := SM.get_mem m (str t)
    rw [h.2 t] at h2
    constructor
    · intro ht
      obtain ⟨k, hk, e⟩ := List.mem_map.1 ht
      have e2 : k = str t := by rw [← e, str_L]
      subst e2
      intro h0
      rw [if_pos h0, decide_eq_true hk] at h2
      cases h2
    · intro h0
      rw [if_neg h0] at h2
      have hk : str t ∈ m.keys := of_decide_eq_true h2.symm
      exact List.mem_map.2 ⟨str t, hk, L_str t⟩)
  rw [← h1, List.length_map]; unfold SM.keys; rw [List.length_map]
theorem CntOf.add {ks : List (List UInt8)} {ws : List Wd} {m : SM} (h : CntOf ks ws m) (x : Wd) (hx : x.1 ∈ ks) : CntOf ks (ws ++ [x]) (m.put (str x.1) (.int .i64 ((cnt ks ws x.1 + 1 : Nat) : Int))) :=
  ⟨SM.nodup_put _ _ _ h.1, fun t => by
    have hc := cnt_snoc ks x ws t
    rw [SM.get_put, h.2 t]
    by_cases e : t = x.1
    · subst e
      rw [if_pos ⟨rfl, hx⟩] at hc
      rw [if_pos rfl, hc, if_neg (Nat.succ_ne_zero _)]
    · rw [if_neg (fun h => e h.1.symm), Nat.add_zero] at hc
      rw [if_neg (fun h => e (str_inj.1 h)), hc]⟩
theorem CntOf.skip {ks : List (List UInt8)} {ws : List Wd} {m : SM} (h : CntOf ks ws m) (x : Wd) (hx : ¬ x.1 ∈ ks) : CntOf ks (ws ++ [x]) m :=
  ⟨h.1, fun t => by
    have hc := cnt_snoc ks x ws t
    have hno : ¬ (x.1 = t ∧ t ∈ ks) := fun h => hx (h.1 ▸ h.2)
    rw [if_neg hno, Nat.add_zero] at hc
    rw [h.2 t, hc]⟩
theorem CntOf.look {ks : List (List UInt8)} {ws : List Wd} {m : SM} (h : CntOf ks ws m) (t : List UInt8) : (m.get (str t)).getD (.int .i64 0) = .int .i64 (cnt ks ws t : Nat) := by
  rw [h.2 t]
  split
  · rename_i h0; rw [h0]; rfl
  · rfl
theorem CntOf.less {ks : List (List UInt8)} {x : Wd} {ws : List Wd} {m : SM} (h : CntOf ks (x :: ws) m) (h1 : 1 < cnt ks (x :: ws) x.1) : CntOf ks ws (m.put (str x.1) (.int .i64 ((cnt ks (x :: ws) x.1 - 1 : Nat) : Int))) :=
  ⟨SM.nodup_put _ _ _ h.1, fun t => by
    have hx : x.1 ∈ ks := ((cnt_pos ks _ x.1).1 (fun h => by rw [h] at h1; cases h1)).1
    have hc := cnt_cons ks x ws t
    rw [SM.get_put, h.2 t]
    by_cases e : t = x.1
    · subst e
      rw [if_pos ⟨rfl, hx⟩] at hc
      have hne : ¬ cnt ks ws x.1 = 0 := by omega
      rw [if_pos rfl, if_neg hne, show cnt ks (x :: ws) x.1 - 1 = cnt ks ws x.1 by omega]
    · rw [if_neg (fun h => e h.1.symm), Nat.zero_add] at hc
      rw [if_neg (fun h => e (str_inj.1 h)), hc]⟩
theorem CntOf.drop {ks : List (List UInt8)} {x : Wd} {ws : List Wd} {m : SM} (h : CntOf ks (x :: ws) m) (h1 : ¬ 1 < cnt ks (x :: ws) x.1) : CntOf ks ws (m.del (str x.1)) :=
  ⟨SM.nodup_del _ _ h.1, fun t => by
    have hc := cnt_cons ks x ws t
    by_cases e : t = x.1
    · subst e
      rw [SM.get_del_same _ _ h.1]
      by_cases hx : x.1 ∈ ks
      · rw [if_pos ⟨rfl, hx⟩] at hc
        rw [if_pos (by omega)]
      · have h0 : cnt ks ws x.1 = 0 := by unfold cnt; rw [if_neg hx]
        rw [if_pos h0]
    · rw [SM.get_del_ne _ _ _ (fun h => e (str_inj.1 h)), h.2 t]
      rw [if_neg (fun h => e h.1.symm), Nat.zero_add] at hc
      rw [hc]⟩
end Go.Proofs.YtmipmlcolaaonaaDoor
