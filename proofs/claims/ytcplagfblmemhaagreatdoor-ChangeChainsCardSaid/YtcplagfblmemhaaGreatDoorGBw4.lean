/- Helper text of this claim: lemmas and contracts that the proved statement rests on; no conditions of its own. -/
import Derived.Test.YtcplagfblmemhaaGreatDoorGBw1
namespace Go.Proofs.YtcplagfblmemhaaGreatDoor
set_option linter.unusedVariables false
set_option maxHeartbeats 4000000
open Go.RowKit Go.Pw Go.Vc Go.Cs Go.Lib
set_option linter.unusedVariables false
set_option maxRecDepth 100000
theorem zoA (l : List Bx) (b : Bx) (h0 : b.id ≠ 0) : deepB l b = true ↔ 1 ≤ (dep l l.length b.id).getD 0 ∧ (dep l l.length b.id).getD 0 ≤ 8 := by
 unfold deepB
 cases hd : dep l l.length b.id with
 | none => simp
 | some d =>
  have h1 := ((zcR _ _ _ _).1 hd).1
  have : d ≠ 0 := fun e => by rw [e] at h1; exact h0 h1
  simp only [decide_eq_true_eq, Option.getD_some]
  omega
theorem zav {w w' : World} {b o : Nat} {vs : List Value} {c : Nat → Prop} (h : At w b o vs) (k : Kp w w' c) (hc : ¬ c b) : At w' b o vs := fun i v hi => by
 have := h i v hi
 rw [k.cell (cell_lt this) hc]; exact this
theorem zlb {l : List Bx} {u j : Int} {nm : List UInt8} (h : kid l u nm = some j) : ∃ b ∈ l, b.up = u ∧ foldL b.name = nm ∧ b.id = j := by
 unfold kid at h
 cases hf : l.find? fun c => decide (c.up = u ∧ foldL c.name = nm) with
 | none => rw [hf] at h; cases h
 | some c =>
  rw [hf] at h
  have h1 := List.find?_some hf
  simp only [decide_eq_true_eq] at h1
  exact ⟨c, List.mem_of_find?_eq_some hf, h1.1, h1.2, by simpa using h⟩
section
variable {w : World}
theorem zhl (a : Int) (s : ByteArray) (w : World) : (Instr.build 201 [(0, .int .i64 a), (1, .string s)].toArray).run Tryz.prog w = .ok (.agg #[.int .i64 a, .string s]) w := by
 simp [Instr.build, Instr.fill, go_sem, Tryz.runUnderlying201]
theorem zeF {v : Value} (l : List Bx) (hv : RowB w v l) (hl : l.length ≤ 1000) (hs : ∀ b ∈ l, b.name.length ≤ 1000000 ∧ b.role.length ≤ 1000000) (hF : FoldTab w) (hT : Tabs w) (hR : RolesTab w) :
  Calls Tryz.prog 81 #[v] w fun e w' => e = .returned (.bool (rightL l)) ∧ Kp w w' n_ := by
 have hv0 := hv
 obtain ⟨a, cap, rfl, hr⟩ := hv
 refine zaa (args := [.slice a l.length cap]) Tryz.func81 rfl NL ?_; refine GW ?_
 by_cases hlen : 64 < l.length
 ·refine KGO ?_
  exact ⟨zag (by unfold rightL; rw [decide_eq_false (by omega)]; rfl), Kp.refl _ _⟩
 refine KGO ?_
 refine RunV.makeMap rfl ?_
 have m1 : GMap (Value.int .i64) (w.alloc (.map #[] 0)) w.heap.size ([] : GM Int) := GMap.new w
 have k1 : Kp w (w.alloc (.map #[] 0)) n_ := (Kp.refl _ _).alloc _
 have z1 : (w.alloc (.map #[] 0)).heap.size = w.heap.size + 1 := by simp
 generalize hb1 : w.heap.size = b1 at *
 generalize w.alloc (.map #[] 0) = w1 at *
 refine KGO ?_
 refine RunV.makeMap rfl ?_
 have m2 : GMap encLoc (w1.alloc (.map #[] 0)) w1.heap.size ([] : GM (Int × List UInt8)) := GMap.new w1
 have k2 : Kp w1 (w1.alloc (.map #[] 0)) n_ := (Kp.refl _ _).alloc _
 have z2 : (w1.alloc (.map #[] 0)).heap.size = w1.heap.size + 1 := by simp
 have m1 := m1.keep k2 fun h => h
 generalize hb2 : w1.heap.size = b2 at *
 generalize w1.alloc (.map #[] 0) = w2 at *
 refine KGO ?_
 refine RunV.makeMap rfl ?_
 have m3 : GMap encS (w2.alloc (.map #[] 0)) w2.heap.size ([] : GM (List UInt8)) := GMap.new w2
 have k3 : Kp w2 (w2.alloc (.map #[] 0)) n_ := (Kp.refl _ _).alloc _
 have m1 := m1.keep k3 fun h => h
 have m2 := m2.keep k3 fun h => h
 generalize hb3 : w2.heap.size = b3 at *
 generalize w2.alloc (.map #[] 0) = w3 at *
 have K3 := (k1.trans0 k2).trans0 k3
 clear k1 k2 k3
 refine KGO ?_
 refine Loop.intro (ι := Nat × Int × GM (List UInt8)) (fun p => [(0, .slice a l.length cap), (3, .map (some b1)), (4, .map (some b2)), (5, .map (some b3)), (6, .int .i64 p.2.1), (19, .slice a l.length cap), (20, .int .i64 (l.length : Nat)), (21, .int .i64 (p.1 : Nat))])
  (fun p wr => Kp w wr n_ ∧ p.1 ≤ l.length ∧ GMap (Value.int .i64) wr b1 (upsM (l.take p.1)) ∧ GMap encLoc wr b2 (locM (l.take p.1)) ∧ GMap encS wr b3 p.2.2 ∧ UsedM (l.take p.1) p.2.2 ∧
   okAll [] l 0 = okAll (l.take p.1) (l.drop p.1) p.2.1 ∧ 0 ≤ p.2.1 ∧ ∀ b ∈ l.take p.1, b.id ≤ p.2.1 ∧ 1 ≤ b.id) (fun p => l.length - p.1) (0, 0, []) ⟨rfl, rfl, rfl, rfl, rfl, rfl, rfl, rfl, trivial⟩
  ⟨K3, Nat.zero_le _, m1, m2, m3, fun r => .inr ⟨rfl, by simp⟩, rfl, Int.le_refl _, by simp⟩ ?_
 rintro ⟨i, last, mu⟩ g wr ⟨hK, hi, h1, h2, h3, hu, hok, hl0, hpre⟩
 dsimp only at hi h1 h2 h3 hu hok hl0 hpre ⊢
 refine GW ?_
 by_cases hlt : i < l.length
 ·have hbs := hs l[i] (List.getElem_mem hlt)
  rw [List.drop_eq_getElem_cons hlt, okAll] at hok
  have htk : l.take (i + 1) = l.take i ++ [l[i]] := List.take_succ_eq_append_getElem hlt
  have hstop : ∀ {q : Bool}, q = false → okStep (l.take i) last l[i] = q → rightL l = false := fun e h => by
   unfold rightL
   rw [hok, h, e]; simp
  have hstep := zgx (l.take i) last l[i]
  obtain ⟨gb, o, rfl, hgb, hat⟩ := hr (by omega)
  refine KGO ?_
  generalize l[i] = b at *
  have l1 := h1.lt
  have l2 := h2.lt
  have l3 := h3.lt
  refine Store.fresh (vs := boxCells b) (by rfl) rfl (zam (by rfl)) ?_
  obtain ⟨a_b8, k_w4, z_w4⟩ := new3 wr 44 (boxCells b)
  generalize wr.alloc (.cells (List.toArray (boxCells b)) 44) = w4 at *
  generalize hs_b8 : wr.heap.size = b8 at *
  have K4 := hK.trans0 k_w4
  have h1 := h1.keep k_w4 fun h => h
  have h2 := h2.keep k_w4 fun h => h
  have h3 := h3.keep k_w4 fun h => h
  refine KGO ?_
  have hfalse : ¬ StepP (l.take i) last b → rightL l = false := fun h => by
   refine hstop rfl ?_
   cases hq : okStep (l.take i) last b with
   | false => rfl
   | true => exact absurd (hstep.1 hq) h
  obtain ⟨rb, ro, rc, hr1, hr2, hr3⟩ := hR
  refine Draw.ways (fun u => Kp w4 u n_) (fun _ => true) [[0, 1, 2, 3, 4, 5, 6, 7], [0, 1, 2, 3, 6, 4, 5, 7]] (by decide +kernel) (Kp.refl _ _).drew ?_
  intro L' hL'
  simp only [List.mem_cons, List.not_mem_nil, or_false] at hL'
  rcases hL' with rfl | rfl
  ·refine KGO ?_
   refine CallS.of (Tryz.call131 _ _) (zdH (w := w4.drew) (str b.name) (hF.keep K4.drew) (by rw [zbd]; omega)) ?_
   rintro e w5 ⟨rfl, k5⟩
   rw [L_str]
   have J5 : Kp w4 w5 n_ := (Kp.refl w4 n_).drew.trans0 k5
   refine RT ?_
   refine ⟨J5, ?_⟩
   refine KGO ?_
   refine RunV.of (zhl _ _ _) ?_
   refine KGO ?_
   refine ⟨J5.alloc _, ?_⟩
   refine KGO ?_
   have l9 : b8 < w5.heap.size := by have := J5.size; omega
   refine Store.fresh (vs := locCells (b.up, foldL b.name)) (by rfl) rfl (zam (by rfl)) ?_
   obtain ⟨a_b9, k_w6, z_w6⟩ := new3 w5 201 (locCells (b.up, foldL b.name))
   generalize w5.alloc (.cells (List.toArray (locCells (b.up, foldL b.name))) 201) = w6 at *
   generalize hs_b9 : w5.heap.size = b9 at *
   have J6 := J5.trans0 k_w6
   refine ⟨J6, ?_⟩
   have K6 := K4.trans0 J6
   have h1 := h1.keep J6 fun h => h
   have h2 := h2.keep J6 fun h => h
   have h3 := h3.keep J6 fun h => h
   by_cases q1 : b.id ≤ last
   ·refine KGO ?_
    exact ⟨zag (hfalse fun h => by have := h.asc; omega).symm, K6⟩
   by_cases q2 : 1099511627776 < b.id
   ·refine KGO ?_
    exact ⟨zag (hfalse fun h => by have := h.max; omega).symm, K6⟩
   refine KGO ?_
   refine CallS.of (Tryz.call82 _ _) (zeQ (w := w6) (str b.name) (hT.keep K6) (by rw [zbd]; omega)) ?_
   rintro e w7 ⟨rfl, k7⟩
   rw [L_str]
   have K7 := K6.trans0 k7
   have J7 := J6.trans0 k7
   have h1 := h1.keep k7 fun h => h
   have h2 := h2.keep k7 fun h => h
   have h3 := h3.keep k7 fun h => h
   refine RT ?_
   by_cases q3 : namedB b.name = true
   rotate_left
   ·rw [show namedB b.name = false by simpa using q3]
    refine KGO ?_
    exact ⟨zag (hfalse fun h => q3 h.named).symm, K7⟩
   rw [q3]
   refine KGO ?_
   refine CallS.of (Tryz.call83 _ _) (zdS (w := w7) rolesL b.role ⟨some ⟨rb, ro, none⟩, rc, rfl, fun _ => ⟨rb, ro, rfl, Nat.lt_of_lt_of_le hr2 K7.size, zaf hr3 K7⟩⟩ (by decide)) ?_
   rintro e w8 ⟨rfl, k8⟩
   have K8 := K7.trans0 k8
   have J8 := J7.trans0 k8
   have j68 := k7.trans0 k8
   have h1 := h1.keep k8 fun h => h
   have h2 := h2.keep k8 fun h => h
   have h3 := h3.keep k8 fun h => h
   refine RT ?_
   by_cases q4 : b.role ∈ rolesL
   rotate_left
   ·rw [decide_eq_false q4]
    refine KGO ?_
    exact ⟨zag (hfalse fun h => q4 h.role).symm, K8⟩
   rw [decide_eq_true q4]
   refine KGO ?_
   refine RunV.lookG keyLoc Tryz.underlying197 (Tryz.zeroValue3 _) h2 (b.up, foldL b.name) rfl ?_
   rw [zcB]
   cases hk : kid (l.take i) b.up (foldL b.name) with
   | some j =>
    obtain ⟨c, hc, hc1, hc2, hc3⟩ := zlb hk
    have := (hpre c hc).2
    refine KGO ?_
    exact ⟨zag (hfalse fun h => h.uniq c hc ⟨hc1, hc2⟩).symm, K8⟩
   | none =>
    have hk2 := zjE.1 hk
    refine KGO ?_
    by_cases q5 : b.role = []
    ·have hrd : decide (str b.role = (⟨#[]⟩ : ByteArray)) = true := by rw [q5]; rfl
     have hS : StepP (l.take i) last b := ⟨by omega, by omega, q3, q4, hk2, fun c hc h => h.1 q5⟩
     refine KGO ?_
     have c8 := zaf a_b8 J8
     have c9 := zaf a_b9 j68
     have uH : ∀ {x y : World} {bm : Nat}, bm < b8 → (At x b8 0 (boxCells b) ∧ At x b9 0 (locCells (b.up, foldL b.name)) ∧ Kp w8 x (fun k => k = b1 ∨ k = b2 ∨ k = b3)) → (bm = b1 ∨ bm = b2 ∨ bm = b3) → Kp x y (one_ bm) →
       (At y b8 0 (boxCells b) ∧ At y b9 0 (locCells (b.up, foldL b.name)) ∧ Kp w8 y (fun k => k = b1 ∨ k = b2 ∨ k = b3)) := fun hlt ⟨x1, x2, x3⟩ hb k => by
      refine ⟨zav x1 k (fun e => ?_), zav x2 k (fun e => ?_), x3.trans k fun q _ e => ?_⟩
      ·have e : b8 = _ := e
       omega
      ·have e : b9 = _ := e
       omega
      ·have e : q = _ := e
       subst e; exact hb
     refine Draw.held (fun u => At u b8 0 (boxCells b) ∧ At u b9 0 (locCells (b.up, foldL b.name)) ∧ Kp w8 u (fun k => k = b1 ∨ k = b2 ∨ k = b3)) (fun _ => true) (by decide +kernel) ⟨c8, c9, (Kp.refl _ _).drew⟩ ?_
     have s0 : (At w8.drew b8 0 (boxCells b) ∧ At w8.drew b9 0 (locCells (b.up, foldL b.name)) ∧ Kp w8 w8.drew (fun k => k = b1 ∨ k = b2 ∨ k = b3)) := ⟨c8, c9, (Kp.refl _ _).drew⟩
     refine KGO ?_
     refine Held.one (by rfl) (fun u hu => hu.1 0 _ rfl) ?_
     refine KGO ?_
     refine HeldG (locCells (b.up, foldL b.name)) (by rfl) (by rfl) (fun u hu => hu.2.1) (by rfl) ?_
     refine KGO ?_
     refine Held.one (by rfl) (fun u hu => hu.1 3 _ rfl) ?_
     refine KGO ?_
     refine Held.one (by rfl) (fun u hu => hu.1 1 _ rfl) ?_
     refine KGO ?_
     refine Held.one (by rfl) (fun u hu => hu.1 0 _ rfl) ?_
     refine KGO ?_
     refine Held.one (by rfl) (fun u hu => hu.1 0 _ rfl) ?_
     refine KGO ?_
     refine RunU.updG keyInt Tryz.underlying196 (w := w8.drew) h1 b.id rfl _ fun u1 g1 ku1 => ?_
     have s1 := uH l1 s0 (.inl rfl) ku1
     refine ⟨s1, ?_⟩
     refine KGO ?_
     refine RunU.updG keyLoc Tryz.underlying197 (GMap.keep (w := w8.drew) h2 ku1 fun e => by have e : b2 = b1 := e; omega) (b.up, foldL b.name) rfl _ fun u2 g2 ku2 => ?_
     have s2 := uH l2 s1 (.inr (.inl rfl)) ku2
     refine ⟨s2, ?_⟩
     refine KGO ?_
     refine RunU.updG keyStr Tryz.underlying198 ((GMap.keep (w := w8.drew) h3 ku1 fun e => by have e : b3 = b1 := e; omega).keep ku2 fun e => by have e : b3 = b2 := e; omega) b.role rfl _ fun u3 g3 ku3 => ?_
     have s3 := uH l3 s2 (.inr (.inr rfl)) ku3
     refine ⟨s3, ?_⟩
     refine KGO ?_
     have g1 := (g1.keep ku2 fun e => by have e : b1 = b2 := e; omega).keep ku3 fun e => by have e : b1 = b3 := e; omega
     have g2 := g2.keep ku3 fun e => by have e : b2 = b3 := e; omega
     have n1 : (upsM (l.take i)).get b.id = none := by
      rw [zcZ, zcN.2 fun c hc e => by have := (hpre c hc).1; omega]; rfl
     have n2 : (locM (l.take i)).get (b.up, foldL b.name) = none := by rw [zcB, hk]; rfl
     rw [GM.put_new n1] at g1
     rw [GM.put_new n2] at g2
     have e1 : upsM (l.take (i + 1)) = upsM (l.take i) ++ [(b.id, .int .i64 b.up)] := by rw [htk]; unfold upsM; rw [List.map_append]; rfl
     have e2 : locM (l.take (i + 1)) = locM (l.take i) ++ [((b.up, foldL b.name), .int .i64 b.id)] := by rw [htk]; unfold locM; rw [List.map_append]; rfl
     refine ⟨(i + 1, b.id, mu.put b.role (.int .i64 b.id)), ⟨rfl, rfl, rfl, rfl, rfl, rfl, rfl, v_int (by simp), trivial⟩, ⟨K8.trans s3.2.2 fun q hq e => ?_, by dsimp only; omega, ?_, ?_, g3, ?_, ?_, by dsimp only; omega, fun c hc => ?_⟩, by dsimp only; omega⟩
     ·omega
     ·dsimp only; rw [e1]; exact g1
     ·dsimp only; rw [e2]; exact g2
     ·dsimp only; rw [htk]; exact hu.put b (by omega)
     ·dsimp only
      rw [hok, hstep.2 hS, htk]; rfl
     ·dsimp only at hc ⊢
      rw [htk] at hc
      rcases List.mem_append.1 hc with hc | hc
      ·have := hpre c hc; omega
      ·rw [List.mem_singleton.1 hc]; omega
    ·have hrd : decide (str b.role = (⟨#[]⟩ : ByteArray)) = false := decide_eq_false fun h => q5 (by have := congrArg L h; rwa [L_str] at this)
     refine KGO ?_
     refine RunV.lookG keyStr Tryz.underlying198 (Tryz.zeroValue3 _) h3 b.role rfl ?_
     rcases hu b.role with ⟨x, hx0, hget, c, hc, hcr⟩ | ⟨hget, hno⟩
     ·rw [hget]
      refine KGO ?_
      exact ⟨zag (hfalse fun h => h.urole c hc ⟨q5, hcr⟩).symm, K8⟩
     ·rw [hget]
      have hS : StepP (l.take i) last b := ⟨by omega, by omega, q3, q4, hk2, fun c hc h => hno c hc h.2⟩
      refine KGO ?_
      have c8 := zaf a_b8 J8
      have c9 := zaf a_b9 j68
      have uH : ∀ {x y : World} {bm : Nat}, bm < b8 → (At x b8 0 (boxCells b) ∧ At x b9 0 (locCells (b.up, foldL b.name)) ∧ Kp w8 x (fun k => k = b1 ∨ k = b2 ∨ k = b3)) → (bm = b1 ∨ bm = b2 ∨ bm = b3) → Kp x y (one_ bm) →
        (At y b8 0 (boxCells b) ∧ At y b9 0 (locCells (b.up, foldL b.name)) ∧ Kp w8 y (fun k => k = b1 ∨ k = b2 ∨ k = b3)) := fun hlt ⟨x1, x2, x3⟩ hb k => by
       refine ⟨zav x1 k (fun e => ?_), zav x2 k (fun e => ?_), x3.trans k fun q _ e => ?_⟩
       ·have e : b8 = _ := e
        omega
       ·have e : b9 = _ := e
        omega
       ·have e : q = _ := e
        subst e; exact hb
      refine Draw.held (fun u => At u b8 0 (boxCells b) ∧ At u b9 0 (locCells (b.up, foldL b.name)) ∧ Kp w8 u (fun k => k = b1 ∨ k = b2 ∨ k = b3)) (fun _ => true) (by decide +kernel) ⟨c8, c9, (Kp.refl _ _).drew⟩ ?_
      have s0 : (At w8.drew b8 0 (boxCells b) ∧ At w8.drew b9 0 (locCells (b.up, foldL b.name)) ∧ Kp w8 w8.drew (fun k => k = b1 ∨ k = b2 ∨ k = b3)) := ⟨c8, c9, (Kp.refl _ _).drew⟩
      refine KGO ?_
      refine Held.one (by rfl) (fun u hu => hu.1 0 _ rfl) ?_
      refine KGO ?_
      refine HeldG (locCells (b.up, foldL b.name)) (by rfl) (by rfl) (fun u hu => hu.2.1) (by rfl) ?_
      refine KGO ?_
      refine Held.one (by rfl) (fun u hu => hu.1 3 _ rfl) ?_
      refine KGO ?_
      refine Held.one (by rfl) (fun u hu => hu.1 1 _ rfl) ?_
      refine KGO ?_
      refine Held.one (by rfl) (fun u hu => hu.1 0 _ rfl) ?_
      refine KGO ?_
      refine Held.one (by rfl) (fun u hu => hu.1 0 _ rfl) ?_
      refine KGO ?_
      refine RunU.updG keyInt Tryz.underlying196 (w := w8.drew) h1 b.id rfl _ fun u1 g1 ku1 => ?_
      have s1 := uH l1 s0 (.inl rfl) ku1
      refine ⟨s1, ?_⟩
      refine KGO ?_
      refine RunU.updG keyLoc Tryz.underlying197 (GMap.keep (w := w8.drew) h2 ku1 fun e => by have e : b2 = b1 := e; omega) (b.up, foldL b.name) rfl _ fun u2 g2 ku2 => ?_
      have s2 := uH l2 s1 (.inr (.inl rfl)) ku2
      refine ⟨s2, ?_⟩
      refine KGO ?_
      refine RunU.updG keyStr Tryz.underlying198 ((GMap.keep (w := w8.drew) h3 ku1 fun e => by have e : b3 = b1 := e; omega).keep ku2 fun e => by have e : b3 = b2 := e; omega) b.role rfl _ fun u3 g3 ku3 => ?_
      have s3 := uH l3 s2 (.inr (.inr rfl)) ku3
      refine ⟨s3, ?_⟩
      refine KGO ?_
      have g1 := (g1.keep ku2 fun e => by have e : b1 = b2 := e; omega).keep ku3 fun e => by have e : b1 = b3 := e; omega
      have g2 := g2.keep ku3 fun e => by have e : b2 = b3 := e; omega
      have n1 : (upsM (l.take i)).get b.id = none := by
       rw [zcZ, zcN.2 fun c hc e => by have := (hpre c hc).1; omega]; rfl
      have n2 : (locM (l.take i)).get (b.up, foldL b.name) = none := by rw [zcB, hk]; rfl
      rw [GM.put_new n1] at g1
      rw [GM.put_new n2] at g2
      have e1 : upsM (l.take (i + 1)) = upsM (l.take i) ++ [(b.id, .int .i64 b.up)] := by rw [htk]; unfold upsM; rw [List.map_append]; rfl
      have e2 : locM (l.take (i + 1)) = locM (l.take i) ++ [((b.up, foldL b.name), .int .i64 b.id)] := by rw [htk]; unfold locM; rw [List.map_append]; rfl
      refine ⟨(i + 1, b.id, mu.put b.role (.int .i64 b.id)), ⟨rfl, rfl, rfl, rfl, rfl, rfl, rfl, v_int (by simp), trivial⟩, ⟨K8.trans s3.2.2 fun q hq e => ?_, by dsimp only; omega, ?_, ?_, g3, ?_, ?_, by dsimp only; omega, fun c hc => ?_⟩, by dsimp only; omega⟩
      ·omega
      ·dsimp only; rw [e1]; exact g1
      ·dsimp only; rw [e2]; exact g2
      ·dsimp only; rw [htk]; exact hu.put b (by omega)
      ·dsimp only
       rw [hok, hstep.2 hS, htk]; rfl
      ·dsimp only at hc ⊢
       rw [htk] at hc
       rcases List.mem_append.1 hc with hc | hc
       ·have := hpre c hc; omega
       ·rw [List.mem_singleton.1 hc]; omega
  ·refine KGO ?_
   have va : VarK (w4.drew.alloc (.cells [Value.int .i64 0, .string ⟨#[]⟩].toArray 201)) w4.drew.heap.size 201 [.int .i64 0, .string ⟨#[]⟩] := VarK.new _ _ _
   have J5 : Kp w4 (w4.drew.alloc (.cells [Value.int .i64 0, .string ⟨#[]⟩].toArray 201)) n_ := (Kp.refl _ _).drew.alloc _
   have hb9 : w4.heap.size ≤ w4.drew.heap.size := Nat.le_refl _
   have e5 : w4.drew.alloc (.cells #[Value.int .i64 0, .string ⟨#[]⟩] 201) = w4.drew.alloc (.cells [Value.int .i64 0, .string ⟨#[]⟩].toArray 201) := rfl
   rw [e5]
   generalize w4.drew.alloc (.cells [Value.int .i64 0, .string ⟨#[]⟩].toArray 201) = w5 at *
   generalize w4.drew.heap.size = b9 at *
   have l9 : b8 < b9 := by omega
   refine ⟨J5, ?_⟩
   refine KGO ?_
   refine CallS.of (Tryz.call131 _ _) (zdH (w := w5) (str b.name) (hF.keep (K4.trans0 J5)) (by rw [zbd]; omega)) ?_
   rintro e w5' ⟨rfl, k5⟩
   rw [L_str]
   have J5' := J5.trans0 k5
   have va := va.keep0 k5
   refine RT ?_
   refine ⟨J5', ?_⟩
   refine KGO ?_
   refine RunV.of (zhl _ _ _) ?_
   refine KGO ?_
   refine SVK (locCells (b.up, foldL b.name)) va fun w6 va6 k6 => ?_
   have a_b9 := va6.at
   have J6 : Kp w4 w6 n_ := J5'.trans k6 fun i hi e => by
    have e : i = b9 := e
    omega
   refine ⟨J6, ?_⟩
   have K6 := K4.trans0 J6
   have h1 := h1.keep J6 fun h => h
   have h2 := h2.keep J6 fun h => h
   have h3 := h3.keep J6 fun h => h
   by_cases q1 : b.id ≤ last
   ·refine KGO ?_
    exact ⟨zag (hfalse fun h => by have := h.asc; omega).symm, K6⟩
   by_cases q2 : 1099511627776 < b.id
   ·refine KGO ?_
    exact ⟨zag (hfalse fun h => by have := h.max; omega).symm, K6⟩
   refine KGO ?_
   refine CallS.of (Tryz.call82 _ _) (zeQ (w := w6) (str b.name) (hT.keep K6) (by rw [zbd]; omega)) ?_
   rintro e w7 ⟨rfl, k7⟩
   rw [L_str]
   have K7 := K6.trans0 k7
   have J7 := J6.trans0 k7
   have h1 := h1.keep k7 fun h => h
   have h2 := h2.keep k7 fun h => h
   have h3 := h3.keep k7 fun h => h
   refine RT ?_
   by_cases q3 : namedB b.name = true
   rotate_left
   ·rw [show namedB b.name = false by simpa using q3]
    refine KGO ?_
    exact ⟨zag (hfalse fun h => q3 h.named).symm, K7⟩
   rw [q3]
   refine KGO ?_
   refine CallS.of (Tryz.call83 _ _) (zdS (w := w7) rolesL b.role ⟨some ⟨rb, ro, none⟩, rc, rfl, fun _ => ⟨rb, ro, rfl, Nat.lt_of_lt_of_le hr2 K7.size, zaf hr3 K7⟩⟩ (by decide)) ?_
   rintro e w8 ⟨rfl, k8⟩
   have K8 := K7.trans0 k8
   have J8 := J7.trans0 k8
   have j68 := k7.trans0 k8
   have h1 := h1.keep k8 fun h => h
   have h2 := h2.keep k8 fun h => h
   have h3 := h3.keep k8 fun h => h
   refine RT ?_
   by_cases q4 : b.role ∈ rolesL
   rotate_left
   ·rw [decide_eq_false q4]
    refine KGO ?_
    exact ⟨zag (hfalse fun h => q4 h.role).symm, K8⟩
   rw [decide_eq_true q4]
   refine KGO ?_
   refine RunV.lookG keyLoc Tryz.underlying197 (Tryz.zeroValue3 _) h2 (b.up, foldL b.name) rfl ?_
   rw [zcB]
   cases hk : kid (l.take i) b.up (foldL b.name) with
   | some j =>
    obtain ⟨c, hc, hc1, hc2, hc3⟩ := zlb hk
    have := (hpre c hc).2
    refine KGO ?_
    exact ⟨zag (hfalse fun h => h.uniq c hc ⟨hc1, hc2⟩).symm, K8⟩
   | none =>
    have hk2 := zjE.1 hk
    refine KGO ?_
    by_cases q5 : b.role = []
    ·have hrd : decide (str b.role = (⟨#[]⟩ : ByteArray)) = true := by rw [q5]; rfl
     have hS : StepP (l.take i) last b := ⟨by omega, by omega, q3, q4, hk2, fun c hc h => h.1 q5⟩
     refine KGO ?_
     have c8 := zaf a_b8 J8
     have c9 := zaf a_b9 j68
     have uH : ∀ {x y : World} {bm : Nat}, bm < b8 → (At x b8 0 (boxCells b) ∧ At x b9 0 (locCells (b.up, foldL b.name)) ∧ Kp w8 x (fun k => k = b1 ∨ k = b2 ∨ k = b3)) → (bm = b1 ∨ bm = b2 ∨ bm = b3) → Kp x y (one_ bm) →
       (At y b8 0 (boxCells b) ∧ At y b9 0 (locCells (b.up, foldL b.name)) ∧ Kp w8 y (fun k => k = b1 ∨ k = b2 ∨ k = b3)) := fun hlt ⟨x1, x2, x3⟩ hb k => by
      refine ⟨zav x1 k (fun e => ?_), zav x2 k (fun e => ?_), x3.trans k fun q _ e => ?_⟩
      ·have e : b8 = _ := e
       omega
      ·have e : b9 = _ := e
       omega
      ·have e : q = _ := e
       subst e; exact hb
     refine Draw.held (fun u => At u b8 0 (boxCells b) ∧ At u b9 0 (locCells (b.up, foldL b.name)) ∧ Kp w8 u (fun k => k = b1 ∨ k = b2 ∨ k = b3)) (fun _ => true) (by decide +kernel) ⟨c8, c9, (Kp.refl _ _).drew⟩ ?_
     have s0 : (At w8.drew b8 0 (boxCells b) ∧ At w8.drew b9 0 (locCells (b.up, foldL b.name)) ∧ Kp w8 w8.drew (fun k => k = b1 ∨ k = b2 ∨ k = b3)) := ⟨c8, c9, (Kp.refl _ _).drew⟩
     refine KGO ?_
     refine Held.one (by rfl) (fun u hu => hu.1 0 _ rfl) ?_
     refine KGO ?_
     refine HeldG (locCells (b.up, foldL b.name)) (by rfl) (by rfl) (fun u hu => hu.2.1) (by rfl) ?_
     refine KGO ?_
     refine Held.one (by rfl) (fun u hu => hu.1 3 _ rfl) ?_
     refine KGO ?_
     refine Held.one (by rfl) (fun u hu => hu.1 1 _ rfl) ?_
     refine KGO ?_
     refine Held.one (by rfl) (fun u hu => hu.1 0 _ rfl) ?_
     refine KGO ?_
     refine Held.one (by rfl) (fun u hu => hu.1 0 _ rfl) ?_
     refine KGO ?_
     refine RunU.updG keyInt Tryz.underlying196 (w := w8.drew) h1 b.id rfl _ fun u1 g1 ku1 => ?_
     have s1 := uH l1 s0 (.inl rfl) ku1
     refine ⟨s1, ?_⟩
     refine KGO ?_
     refine RunU.updG keyLoc Tryz.underlying197 (GMap.keep (w := w8.drew) h2 ku1 fun e => by have e : b2 = b1 := e; omega) (b.up, foldL b.name) rfl _ fun u2 g2 ku2 => ?_
     have s2 := uH l2 s1 (.inr (.inl rfl)) ku2
     refine ⟨s2, ?_⟩
     refine KGO ?_
     refine RunU.updG keyStr Tryz.underlying198 ((GMap.keep (w := w8.drew) h3 ku1 fun e => by have e : b3 = b1 := e; omega).keep ku2 fun e => by have e : b3 = b2 := e; omega) b.role rfl _ fun u3 g3 ku3 => ?_
     have s3 := uH l3 s2 (.inr (.inr rfl)) ku3
     refine ⟨s3, ?_⟩
     refine KGO ?_
     have g1 := (g1.keep ku2 fun e => by have e : b1 = b2 := e; omega).keep ku3 fun e => by have e : b1 = b3 := e; omega
     have g2 := g2.keep ku3 fun e => by have e : b2 = b3 := e; omega
     have n1 : (upsM (l.take i)).get b.id = none := by
      rw [zcZ, zcN.2 fun c hc e => by have := (hpre c hc).1; omega]; rfl
     have n2 : (locM (l.take i)).get (b.up, foldL b.name) = none := by rw [zcB, hk]; rfl
     rw [GM.put_new n1] at g1
     rw [GM.put_new n2] at g2
     have e1 : upsM (l.take (i + 1)) = upsM (l.take i) ++ [(b.id, .int .i64 b.up)] := by rw [htk]; unfold upsM; rw [List.map_append]; rfl
     have e2 : locM (l.take (i + 1)) = locM (l.take i) ++ [((b.up, foldL b.name), .int .i64 b.id)] := by rw [htk]; unfold locM; rw [List.map_append]; rfl
     refine ⟨(i + 1, b.id, mu.put b.role (.int .i64 b.id)), ⟨rfl, rfl, rfl, rfl, rfl, rfl, rfl, v_int (by simp), trivial⟩, ⟨K8.trans s3.2.2 fun q hq e => ?_, by dsimp only; omega, ?_, ?_, g3, ?_, ?_, by dsimp only; omega, fun c hc => ?_⟩, by dsimp only; omega⟩
     ·omega
     ·dsimp only; rw [e1]; exact g1
     ·dsimp only; rw [e2]; exact g2
     ·dsimp only; rw [htk]; exact hu.put b (by omega)
     ·dsimp only
      rw [hok, hstep.2 hS, htk]; rfl
     ·dsimp only at hc ⊢
      rw [htk] at hc
      rcases List.mem_append.1 hc with hc | hc
      ·have := hpre c hc; omega
      ·rw [List.mem_singleton.1 hc]; omega
    ·have hrd : decide (str b.role = (⟨#[]⟩ : ByteArray)) = false := decide_eq_false fun h => q5 (by have := congrArg L h; rwa [L_str] at this)
     refine KGO ?_
     refine RunV.lookG keyStr Tryz.underlying198 (Tryz.zeroValue3 _) h3 b.role rfl ?_
     rcases hu b.role with ⟨x, hx0, hget, c, hc, hcr⟩ | ⟨hget, hno⟩
     ·rw [hget]
      refine KGO ?_
      exact ⟨zag (hfalse fun h => h.urole c hc ⟨q5, hcr⟩).symm, K8⟩
     ·rw [hget]
      have hS : StepP (l.take i) last b := ⟨by omega, by omega, q3, q4, hk2, fun c hc h => hno c hc h.2⟩
      refine KGO ?_
      have c8 := zaf a_b8 J8
      have c9 := zaf a_b9 j68
      have uH : ∀ {x y : World} {bm : Nat}, bm < b8 → (At x b8 0 (boxCells b) ∧ At x b9 0 (locCells (b.up, foldL b.name)) ∧ Kp w8 x (fun k => k = b1 ∨ k = b2 ∨ k = b3)) → (bm = b1 ∨ bm = b2 ∨ bm = b3) → Kp x y (one_ bm) →
        (At y b8 0 (boxCells b) ∧ At y b9 0 (locCells (b.up, foldL b.name)) ∧ Kp w8 y (fun k => k = b1 ∨ k = b2 ∨ k = b3)) := fun hlt ⟨x1, x2, x3⟩ hb k => by
       refine ⟨zav x1 k (fun e => ?_), zav x2 k (fun e => ?_), x3.trans k fun q _ e => ?_⟩
       ·have e : b8 = _ := e
        omega
       ·have e : b9 = _ := e
        omega
       ·have e : q = _ := e
        subst e; exact hb
      refine Draw.held (fun u => At u b8 0 (boxCells b) ∧ At u b9 0 (locCells (b.up, foldL b.name)) ∧ Kp w8 u (fun k => k = b1 ∨ k = b2 ∨ k = b3)) (fun _ => true) (by decide +kernel) ⟨c8, c9, (Kp.refl _ _).drew⟩ ?_
      have s0 : (At w8.drew b8 0 (boxCells b) ∧ At w8.drew b9 0 (locCells (b.up, foldL b.name)) ∧ Kp w8 w8.drew (fun k => k = b1 ∨ k = b2 ∨ k = b3)) := ⟨c8, c9, (Kp.refl _ _).drew⟩
      refine KGO ?_
      refine Held.one (by rfl) (fun u hu => hu.1 0 _ rfl) ?_
      refine KGO ?_
      refine HeldG (locCells (b.up, foldL b.name)) (by rfl) (by rfl) (fun u hu => hu.2.1) (by rfl) ?_
      refine KGO ?_
      refine Held.one (by rfl) (fun u hu => hu.1 3 _ rfl) ?_
      refine KGO ?_
      refine Held.one (by rfl) (fun u hu => hu.1 1 _ rfl) ?_
      refine KGO ?_
      refine Held.one (by rfl) (fun u hu => hu.1 0 _ rfl) ?_
      refine KGO ?_
      refine Held.one (by rfl) (fun u hu => hu.1 0 _ rfl) ?_
      refine KGO ?_
      refine RunU.updG keyInt Tryz.underlying196 (w := w8.drew) h1 b.id rfl _ fun u1 g1 ku1 => ?_
      have s1 := uH l1 s0 (.inl rfl) ku1
      refine ⟨s1, ?_⟩
      refine KGO ?_
      refine RunU.updG keyLoc Tryz.underlying197 (GMap.keep (w := w8.drew) h2 ku1 fun e => by have e : b2 = b1 := e; omega) (b.up, foldL b.name) rfl _ fun u2 g2 ku2 => ?_
      have s2 := uH l2 s1 (.inr (.inl rfl)) ku2
      refine ⟨s2, ?_⟩
      refine KGO ?_
      refine RunU.updG keyStr Tryz.underlying198 ((GMap.keep (w := w8.drew) h3 ku1 fun e => by have e : b3 = b1 := e; omega).keep ku2 fun e => by have e : b3 = b2 := e; omega) b.role rfl _ fun u3 g3 ku3 => ?_
      have s3 := uH l3 s2 (.inr (.inr rfl)) ku3
      refine ⟨s3, ?_⟩
      refine KGO ?_
      have g1 := (g1.keep ku2 fun e => by have e : b1 = b2 := e; omega).keep ku3 fun e => by have e : b1 = b3 := e; omega
      have g2 := g2.keep ku3 fun e => by have e : b2 = b3 := e; omega
      have n1 : (upsM (l.take i)).get b.id = none := by
       rw [zcZ, zcN.2 fun c hc e => by have := (hpre c hc).1; omega]; rfl
      have n2 : (locM (l.take i)).get (b.up, foldL b.name) = none := by rw [zcB, hk]; rfl
      rw [GM.put_new n1] at g1
      rw [GM.put_new n2] at g2
      have e1 : upsM (l.take (i + 1)) = upsM (l.take i) ++ [(b.id, .int .i64 b.up)] := by rw [htk]; unfold upsM; rw [List.map_append]; rfl
      have e2 : locM (l.take (i + 1)) = locM (l.take i) ++ [((b.up, foldL b.name), .int .i64 b.id)] := by rw [htk]; unfold locM; rw [List.map_append]; rfl
      refine ⟨(i + 1, b.id, mu.put b.role (.int .i64 b.id)), ⟨rfl, rfl, rfl, rfl, rfl, rfl, rfl, v_int (by simp), trivial⟩, ⟨K8.trans s3.2.2 fun q hq e => ?_, by dsimp only; omega, ?_, ?_, g3, ?_, ?_, by dsimp only; omega, fun c hc => ?_⟩, by dsimp only; omega⟩
      ·omega
      ·dsimp only; rw [e1]; exact g1
      ·dsimp only; rw [e2]; exact g2
      ·dsimp only; rw [htk]; exact hu.put b (by omega)
      ·dsimp only
       rw [hok, hstep.2 hS, htk]; rfl
      ·dsimp only at hc ⊢
       rw [htk] at hc
       rcases List.mem_append.1 hc with hc | hc
       ·have := hpre c hc; omega
       ·rw [List.mem_singleton.1 hc]; omega
 ·refine KGO ?_
  have hin : i = l.length := by omega
  subst hin
  rw [List.take_length] at h1 hok hpre
  rw [List.drop_length] at hok
  have hok : okAll [] l 0 = true := hok
  have hall := (zft l [] 0).1 hok
  have hrt : rightL l = l.all (deepB l) := by unfold rightL; rw [hok, decide_eq_true (by omega)]; rfl
  refine Loop.intro (ι := Nat) (fun j => [(3, .map (some b1)), (88, .slice a l.length cap), (89, .int .i64 (l.length : Nat)), (90, .int .i64 (j : Nat))])
   (fun j wz => Kp wr wz n_ ∧ j ≤ l.length ∧ ∀ b ∈ l.take j, deepB l b = true) (fun j => l.length - j) 0 ⟨rfl, rfl, rfl, rfl, trivial⟩ ⟨Kp.refl _ _, Nat.zero_le _, by simp⟩ ?_
  rintro j gg wz ⟨hKz, hj, hdj⟩
  have Kz := hK.trans0 hKz
  refine GW ?_
  by_cases hlt2 : j < l.length
  ·obtain ⟨gb, o, rfl, hgb, hat⟩ := hr (by omega)
   have htk : l.take (j + 1) = l.take j ++ [l[j]] := List.take_succ_eq_append_getElem hlt2
   have hm := List.getElem_mem hlt2
   have hpos := hall.lo l[j] hm
   have hdv := zoA l l[j] (by omega)
   have hnot : deepB l l[j] = false → rightL l = false := fun h => by
    rw [hrt, List.all_eq_false]
    exact ⟨l[j], hm, by rw [h]; simp⟩
   refine KGO ?_
   generalize l[j] = b at *
   refine Store.fresh (vs := boxCells b) (by rfl) rfl (zam (by rfl)) ?_
   obtain ⟨a_b11, k_w4, z_w4⟩ := new3 wz 44 (boxCells b)
   generalize wz.alloc (.cells (List.toArray (boxCells b)) 44) = w4 at *
   generalize hs_b11 : wz.heap.size = b11 at *
   refine KGO ?_
   refine CallS.of (Tryz.call132 _ _) (zpr (w := w4) l b.id (h1.keep (hKz.trans0 k_w4) fun h => h) (by omega) hl) ?_
   rintro e w5 ⟨rfl, k5⟩
   have K5 := (Kz.trans0 k_w4).trans0 k5
   refine RT ?_
   generalize (dep l l.length b.id).getD 0 = D at *
   by_cases q1 : D < 1
   ·refine KGO ?_
    exact ⟨zag (hnot (by rw [Bool.eq_false_iff]; exact fun h => by have := hdv.1 h; omega)).symm, K5⟩
   by_cases q2 : 8 < D
   ·refine KGO ?_
    exact ⟨zag (hnot (by rw [Bool.eq_false_iff]; exact fun h => by have := hdv.1 h; omega)).symm, K5⟩
   refine KGO ?_
   refine ⟨j + 1, ⟨rfl, rfl, rfl, v_int (by simp), trivial⟩, ⟨(hKz.trans0 k_w4).trans0 k5, by omega, fun c hc => ?_⟩, by dsimp only; omega⟩
   rw [htk] at hc
   rcases List.mem_append.1 hc with hc | hc
   ·exact hdj c hc
   ·rw [List.mem_singleton.1 hc]; exact hdv.2 (by omega)
  ·refine KGO ?_
   refine ⟨zag ?_, Kz⟩
   rw [hrt]
   symm
   rw [List.all_eq_true]
   intro b hb
   exact hdj b (by rw [show j = l.length by omega, List.take_length]; exact hb)
end
section
variable {w : World}
theorem cf1 {v : Value} (l : List Bx) (g : Nat) (c1 : Value) (p : Bx → Bool) (hv : RowB w v l) (hl : l.length ≤ 1000000) (hg : ∀ (args : Array Value) (w : World), (callFunc g args).run Tryz.prog w = .ok (.enter g args) w)
  (hp : ∀ b ∈ l, ∀ w', Kp w w' n_ → Calls Tryz.prog g #[.agg (boxCells b).toArray, c1] w' fun e w'' => e = .returned (.bool (p b)) ∧ Kp w' w'' n_) :
  Calls Tryz.prog 84 #[v, .func (.func g) #[] #[c1]] w fun e w' => e = .returned (.bool (l.any p)) ∧ Kp w w' n_ := by
 have hi : ∀ w0 : World, Kp w w0 n_ → Calls Tryz.prog 137 #[v, .func (.func g) #[] #[c1]] w0 fun e w' => ∃ z : Int, e = .returned (.int .i64 z) ∧ (0 ≤ z ↔ l.any p = true) ∧ Kp w0 w' n_ := fun w0 K0 => by
  have hv1 := hv.keep K0
  obtain ⟨a, cap, rfl, hr⟩ := hv1
  refine zaa (args := [.slice a l.length cap, .func (.func g) #[] #[c1]]) Tryz.func137 rfl NL ?_; refine GW ?_
  refine Loop.intro (ι := Nat) (fun i => [(0, .slice a l.length cap), (1, .func (.func g) #[] #[c1]), (7, .int .i64 (l.length : Nat)), (8, .int .i64 (i : Nat))])
   (fun i wr => Kp w0 wr n_ ∧ i ≤ l.length ∧ l.any p = (l.drop i).any p) (fun i => l.length - i) 0 ⟨rfl, rfl, rfl, rfl, trivial⟩ ⟨Kp.refl _ _, Nat.zero_le _, rfl⟩ ?_
  rintro i gg wr ⟨hK, hi, he⟩
  refine GW ?_
  by_cases hlt : i < l.length
  ·obtain ⟨gb, o, rfl, hgb, hat⟩ := hr (by omega)
   have hd := List.drop_eq_getElem_cons hlt
   have hpc := hp l[i] (List.getElem_mem hlt) wr (K0.trans0 hK)
   refine KGO ?_
   generalize l[i] = b at *
   refine CallS.of (hg _ _) hpc ?_
   rintro e w1 ⟨rfl, k1⟩
   refine RT ?_
   rw [hd, List.any_cons] at he
   cases hb : p b with
   | true =>
    rw [hb, Bool.true_or] at he
    refine KGO ?_
    exact ⟨_, rfl, ⟨fun _ => he, fun _ => by omega⟩, hK.trans0 k1⟩
   | false =>
    rw [hb, Bool.false_or] at he
    refine KGO ?_
    exact ⟨i + 1, ⟨rfl, rfl, rfl, v_int (by simp), trivial⟩, ⟨hK.trans0 k1, by omega, he⟩, by dsimp only; omega⟩
  ·refine KGO ?_
   refine ⟨_, rfl, ⟨fun h => by omega, fun h => ?_⟩, hK⟩
   rw [he, List.drop_eq_nil_of_le (by omega)] at h
   cases h
 have hv0 := hv
 obtain ⟨a, cap, rfl, hr⟩ := hv
 refine zaa (args := [.slice a l.length cap, .func (.func g) #[] #[c1]]) Tryz.func84 rfl NL ?_; refine GW ?_
 refine CallS.of (Tryz.call137 _ _) (hi w (Kp.refl _ _)) ?_
 rintro e w1 ⟨z, rfl, hz, k1⟩
 refine RT ?_
 refine ⟨zag ?_, k1⟩
 rw [Bool.eq_iff_iff, decide_eq_true_eq]
 exact hz
theorem cf3 {v : Value} (l : List Bx) (g : Nat) (c1 c2 c3 : Value) (p : Bx → Bool) (hv : RowB w v l) (hl : l.length ≤ 1000000) (hg : ∀ (args : Array Value) (w : World), (callFunc g args).run Tryz.prog w = .ok (.enter g args) w)
  (hp : ∀ b ∈ l, ∀ w', Kp w w' n_ → Calls Tryz.prog g #[.agg (boxCells b).toArray, c1, c2, c3] w' fun e w'' => e = .returned (.bool (p b)) ∧ Kp w' w'' n_) :
  Calls Tryz.prog 84 #[v, .func (.func g) #[] #[c1, c2, c3]] w fun e w' => e = .returned (.bool (l.any p)) ∧ Kp w w' n_ := by
 have hi : ∀ w0 : World, Kp w w0 n_ → Calls Tryz.prog 137 #[v, .func (.func g) #[] #[c1, c2, c3]] w0 fun e w' => ∃ z : Int, e = .returned (.int .i64 z) ∧ (0 ≤ z ↔ l.any p = true) ∧ Kp w0 w' n_ := fun w0 K0 => by
  have hv1 := hv.keep K0
  obtain ⟨a, cap, rfl, hr⟩ := hv1
  refine zaa (args := [.slice a l.length cap, .func (.func g) #[] #[c1, c2, c3]]) Tryz.func137 rfl NL ?_; refine GW ?_
  refine Loop.intro (ι := Nat) (fun i => [(0, .slice a l.length cap), (1, .func (.func g) #[] #[c1, c2, c3]), (7, .int .i64 (l.length : Nat)), (8, .int .i64 (i : Nat))])
   (fun i wr => Kp w0 wr n_ ∧ i ≤ l.length ∧ l.any p = (l.drop i).any p) (fun i => l.length - i) 0 ⟨rfl, rfl, rfl, rfl, trivial⟩ ⟨Kp.refl _ _, Nat.zero_le _, rfl⟩ ?_
  rintro i gg wr ⟨hK, hi, he⟩
  refine GW ?_
  by_cases hlt : i < l.length
  ·obtain ⟨gb, o, rfl, hgb, hat⟩ := hr (by omega)
   have hd := List.drop_eq_getElem_cons hlt
   have hpc := hp l[i] (List.getElem_mem hlt) wr (K0.trans0 hK)
   refine KGO ?_
   generalize l[i] = b at *
   refine CallS.of (hg _ _) hpc ?_
   rintro e w1 ⟨rfl, k1⟩
   refine RT ?_
   rw [hd, List.any_cons] at he
   cases hb : p b with
   | true =>
    rw [hb, Bool.true_or] at he
    refine KGO ?_
    exact ⟨_, rfl, ⟨fun _ => he, fun _ => by omega⟩, hK.trans0 k1⟩
   | false =>
    rw [hb, Bool.false_or] at he
    refine KGO ?_
    exact ⟨i + 1, ⟨rfl, rfl, rfl, v_int (by simp), trivial⟩, ⟨hK.trans0 k1, by omega, he⟩, by dsimp only; omega⟩
  ·refine KGO ?_
   refine ⟨_, rfl, ⟨fun h => by omega, fun h => ?_⟩, hK⟩
   rw [he, List.drop_eq_nil_of_le (by omega)] at h
   cases h
 have hv0 := hv
 obtain ⟨a, cap, rfl, hr⟩ := hv
 refine zaa (args := [.slice a l.length cap, .func (.func g) #[] #[c1, c2, c3]]) Tryz.func84 rfl NL ?_; refine GW ?_
 refine CallS.of (Tryz.call137 _ _) (hi w (Kp.refl _ _)) ?_
 rintro e w1 ⟨z, rfl, hz, k1⟩
 refine RT ?_
 refine ⟨zag ?_, k1⟩
 rw [Bool.eq_iff_iff, decide_eq_true_eq]
 exact hz
end
end Go.Proofs.YtcplagfblmemhaaGreatDoor
