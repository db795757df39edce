/- Helper text of this claim: Ae2: lemmas and contracts that the proved statement rests on; no conditions of its own. -/
import Derived.Test.YtohhkegmbgancaaGreatDoorGAx1
import Derived.Test.YtohhkegmbgancaaGreatDoorGBw10
-- alias Tryz
namespace Go.Proofs.YtohhkegmbgancaaGreatDoor
open Go.Shelf Go.RowKit Go.Pw Go.Vc Go.Cs Go.Lib
set_option linter.unusedVariables false
set_option maxRecDepth 100000
theorem any_not {l : List Ml} (p : Ml → Bool) : l.any (fun x => !p x) = !l.all p := by
  induction l with
  | nil => rfl
  | cons a r ih => rw [List.any_cons, List.all_cons, ih]; cases p a <;> rfl
def KeyM (m : GM (List UInt8)) (ks : List (List UInt8)) : Prop := ∀ k, m.get k = if k ∈ ks then some (.bool true) else none
theorem KeyM.put {m : GM (List UInt8)} {ks : List (List UInt8)} (h : KeyM m ks) (k : List UInt8) : KeyM (m.put k (.bool true)) (ks ++ [k]) := fun k' => by
  rw [GM.get_put, h k']
  by_cases e : k' = k
  · subst e; simp
  · simp [e]
section
variable {w : World}
set_option maxHeartbeats 16000000 in
theorem ac_Right {h : Hd} {A : Acc} (hr : AccR w h A) (hf : Fit A) (hE : BEnv w) : Calls Tryz.prog 24 #[.agg (accC h A).toArray] w fun e w' => e = .returned (.bool (rightA A)) ∧ Keeps w w' none_ := by
  have f1 := hf.bl
  have f2 := hf.bs
  have f3 := hf.ml
  have f4 := hf.mb
  have f5 := hf.mf
  have f6 := hf.sl
  have f7 := hf.ss
  have f8 := hf.nl
  have f9 := hf.nm
  have f10 := hf.nb
  clear hf
  have nB : h.B.n = A.boxes.length := RowO.len hr.b
  have nS : h.S.n = A.scripts.length := RowO.len hr.s
  have nN : h.N.n = A.seen.length := RowO.len hr.n
  obtain ⟨lx, hml, rM, hmo⟩ := hr.m
  have hlx : lx.length = A.mails.length := by rw [← hml, List.length_map]
  have nM : h.M.n = lx.length := RowO.len rM
  have rB : RowB w (.slice h.B.a A.boxes.length h.B.c) A.boxes := by rw [← nB]; exact hr.b
  have rS : RowS w (.slice h.S.a A.scripts.length h.S.c) A.scripts := by rw [← nS]; exact hr.s
  have rN : RowN w (.slice h.N.a A.seen.length h.N.c) A.seen := by rw [← nN]; exact hr.n
  have rM : RowMr w (.slice h.M.a lx.length h.M.c) lx := by rw [← nM]; exact rM
  refine calls_of_vc (args := [.agg (accC h A).toArray]) Tryz.func24 rfl (Nat.le_of_ble_eq_true rfl) ?_; refine Sat.go hmix ?_; conv => whnf
  have a_b1 := at_fresh w 36 (accC h A)
  have v_b1 := VarK.new w 36 (accC h A)
  have k_w1 : Keeps w (w.alloc (.cells (List.toArray (accC h A)) 36)) none_ := (Keeps.refl _ _).alloc _
  have z_w1 : (w.alloc (.cells (List.toArray (accC h A)) 36)).heap.size = w.heap.size + 1 := by simp
  generalize w.alloc (.cells (List.toArray (accC h A)) 36) = w1 at *
  generalize hs_b1 : w.heap.size = b1 at *
  have r_w1 : Keeps w1 w1 none_ := Keeps.refl _ _
  have aa : At w1 b1 0 [.slice h.B.a A.boxes.length h.B.c, .slice h.M.a lx.length h.M.c, .slice h.S.a A.scripts.length h.S.c, .string (str A.active), .slice h.N.a A.seen.length h.N.c, .int .i64 A.nm, .int .i64 A.nb, .int .i64 A.st] := by
    rw [← nB, ← nM, ← nS, ← nN]; exact a_b1
  clear a_b1
  have hbad : headB A = false → rightA A = false := fun e => by unfold rightA; rw [e]; rfl
  refine KGO ?_
  refine CallS.of (Tryz.call38 _ _) (ac_in (w := w1) A.nm 1 1099511627776) ?_
  rintro e w1' ⟨rfl, rfl⟩
  refine ⟨_, rfl, ?_⟩; (first | refine Then.go hmix ?_ | refine Sat.go hmix ?_ | refine ResK.go ?_ | skip); conv => whnf
  by_cases c1 : inR A.nm 1 1099511627776 = true
  rotate_left
  · have c1 : inR A.nm 1 1099511627776 = false := by simpa using c1
    rw [c1]
    refine KGO ?_
    exact ⟨ret_bool (hbad (by unfold headB; rw [c1]; rfl)).symm, k_w1⟩
  rw [c1]
  refine KGO ?_
  refine CallS.of (Tryz.call38 _ _) (ac_in (w := w1) A.nb 1 1099511627776) ?_
  rintro e w1' ⟨rfl, rfl⟩
  refine ⟨_, rfl, ?_⟩; (first | refine Then.go hmix ?_ | refine Sat.go hmix ?_ | refine ResK.go ?_ | skip); conv => whnf
  by_cases c2 : inR A.nb 1 1099511627776 = true
  rotate_left
  · have c2 : inR A.nb 1 1099511627776 = false := by simpa using c2
    rw [c2]
    refine KGO ?_
    exact ⟨ret_bool (hbad (by unfold headB; rw [c2]; simp)).symm, k_w1⟩
  rw [c2]
  refine KGO ?_
  refine CallS.of (Tryz.call38 _ _) (ac_in (w := w1) A.st 0 1099511627776) ?_
  rintro e w1' ⟨rfl, rfl⟩
  refine ⟨_, rfl, ?_⟩; (first | refine Then.go hmix ?_ | refine Sat.go hmix ?_ | refine ResK.go ?_ | skip); conv => whnf
  by_cases c3 : inR A.st 0 1099511627776 = true
  rotate_left
  · have c3 : inR A.st 0 1099511627776 = false := by simpa using c3
    rw [c3]
    refine KGO ?_
    exact ⟨ret_bool (hbad (by unfold headB; rw [c3]; simp)).symm, k_w1⟩
  rw [c3]
  refine KGO ?_
  refine CallS.of (Tryz.call44 _ _) (bx_Right (w := w1) A.boxes (rB.keep k_w1) f1 f2 (hE.keep k_w1).F (hE.keep k_w1).T (hE.keep k_w1).R) ?_
  rintro e w2 ⟨rfl, k2⟩
  have K2 := k_w1.trans0 k2
  have aa := at_mono aa k2
  have kr2 : Keeps w2 w2 none_ := Keeps.refl _ _
  refine ⟨_, rfl, ?_⟩; (first | refine Then.go hmix ?_ | refine Sat.go hmix ?_ | refine ResK.go ?_ | skip); conv => whnf
  by_cases c4 : rightL A.boxes = true
  rotate_left
  · have c4 : rightL A.boxes = false := by simpa using c4
    rw [c4]
    refine KGO ?_
    exact ⟨ret_bool (hbad (by unfold headB; rw [c4]; simp)).symm, K2⟩
  rw [c4]
  by_cases c5 : A.mails.length ≤ 4096
  rotate_left
  · have c5' : 4096 < lx.length := by omega
    refine KGO ?_
    exact ⟨ret_bool (hbad (by unfold headB; rw [decide_eq_false c5]; simp)).symm, K2⟩
  by_cases c6 : A.scripts.length ≤ 16
  rotate_left
  · have c5' : ¬ 4096 < lx.length := by omega
    refine KGO ?_
    exact ⟨ret_bool (hbad (by unfold headB; rw [decide_eq_false c6]; simp)).symm, K2⟩
  by_cases c7 : A.seen.length ≤ 256
  rotate_left
  · have c5' : ¬ 4096 < lx.length := by omega
    refine KGO ?_
    exact ⟨ret_bool (hbad (by unfold headB; rw [decide_eq_false c7]; simp)).symm, K2⟩
  have hgood : headB A = true := by unfold headB; rw [c1, c2, c3, c4, decide_eq_true c5, decide_eq_true c6, decide_eq_true c7]; rfl
  have c5' : ¬ 4096 < lx.length := by omega
  have hbad : Cs.lastB A = false → rightA A = false := fun e => by unfold rightA; rw [e]; simp
  have hlast : ∀ q0 : 0 < A.boxes.length, Cs.lastB A = decide ((A.boxes[((A.boxes.length : Nat) - 1 : Int).toNat]'(by omega)).id < A.nb) := fun q0 => by
    have hl : A.boxes.getLast? = some (A.boxes[((A.boxes.length : Nat) - 1 : Int).toNat]'(by omega)) := by
      rw [List.getLast?_eq_getElem?, show A.boxes.length - 1 = ((A.boxes.length : Nat) - 1 : Int).toNat by omega, List.getElem?_eq_getElem (by omega)]
    unfold Cs.lastB
    rw [hl]
  have K3 := K2.drew
  have aa3 : At w2.drew b1 0 [.slice h.B.a A.boxes.length h.B.c, .slice h.M.a lx.length h.M.c, .slice h.S.a A.scripts.length h.S.c, .string (str A.active), .slice h.N.a A.seen.length h.N.c, .int .i64 A.nm, .int .i64 A.nb, .int .i64 A.st] := aa
  have hacc : ∀ u, At u b1 0 [.slice h.B.a A.boxes.length h.B.c, .slice h.M.a lx.length h.M.c, .slice h.S.a A.scripts.length h.S.c, .string (str A.active), .slice h.N.a A.seen.length h.N.c, .int .i64 A.nm, .int .i64 A.nb, .int .i64 A.st] → At u b1 0 (accC h A) := fun u hu => by unfold accC; rw [nB, nM, nS, nN]; exact hu
  have hmm : ∀ x ∈ lx, x.m ∈ A.mails := fun x hx => by rw [← hml]; exact List.mem_map_of_mem hx
  have hany : (lx.any fun x => !fitM A x.m) = !A.mails.all (fitM A) := by
    rw [← any_not, ← hml, List.any_map]; rfl
  have hemp : decide (str A.active = (⟨#[]⟩ : ByteArray)) = decide (A.active = []) := decide_eq_decide.2 (str_inj (b := []))
  by_cases q0 : 0 < A.boxes.length
  · have hl := hlast q0
    obtain ⟨aB, cB, eB, hB⟩ := rB
    obtain ⟨gB, oB, rfl, hgB, atB⟩ := hB q0
    injection eB with eB _ _
    rw [eB] at aa
    have atB := at_mono atB K2
    by_cases c8 : (A.boxes[((A.boxes.length : Nat) - 1 : Int).toNat]'(by omega)).id < A.nb
    · have hgl : Cs.lastB A = true := by rw [hl]; exact decide_eq_true c8
      refine KGO ?_
      clear aa hbad
      have kr3 : Keeps w2.drew w2.drew none_ := Keeps.refl _ _
      generalize w2.drew = w3 at *
      refine CallS.of (Tryz.call54 _ _) (rs_Ml (w := w3) lx 55 (fun x y => idB x.m y.m) (rM.keep K3) (by omega) Tryz.call55 (fun x y w' => ac_Right1 x y)) ?_
      rintro e w4 ⟨rfl, k4⟩
      have K4 := K3.trans0 k4
      have aa4 := at_mono aa3 k4
      have kr4 : Keeps w4 w4 none_ := Keeps.refl _ _
      refine ⟨_, rfl, ?_⟩; (first | refine Then.go hmix ?_ | refine Sat.go hmix ?_ | refine ResK.go ?_ | skip); conv => whnf
      rw [risesB_map idB (·.m) lx, hml]
      by_cases c8 : risesB idB A.mails = true
      rotate_left
      · have c8 : risesB idB A.mails = false := by simpa using c8
        rw [c8]
        refine KGO ?_
        exact ⟨ret_bool (by unfold rightA; rw [c8]; simp), K4⟩
      rw [c8]
      refine KGO ?_
      refine CallS.of (Tryz.call56 _ _) (rs_Src (w := w4) A.scripts 57 nameB (rS.keep K4) (by omega) Tryz.call57 (fun x y w' => ac_Right2 x y)) ?_
      rintro e w5 ⟨rfl, k5⟩
      have K5 := K4.trans0 k5
      have aa5 := at_mono aa4 k5
      have kr5 : Keeps w5 w5 none_ := Keeps.refl _ _
      refine ⟨_, rfl, ?_⟩; (first | refine Then.go hmix ?_ | refine Sat.go hmix ?_ | refine ResK.go ?_ | skip); conv => whnf
      by_cases c9 : risesB nameB A.scripts = true
      rotate_left
      · have c9 : risesB nameB A.scripts = false := by simpa using c9
        rw [c9]
        refine KGO ?_
        exact ⟨ret_bool (by unfold rightA; rw [c9]; simp), K5⟩
      rw [c9]
      refine KGO ?_
      conv => arg 3; simp [ev, upd]
      refine CallS.of (Tryz.call58 _ _) (cnf_Ml1 (w := w5) lx 59 (.pointer (some ⟨b1, 0, none⟩)) (fun x => !fitM A x.m) (rM.keep K5) (by omega) Tryz.call59 (fun x hx w' k => ac_Right3 x (hacc w' (at_mono aa5 k)) (hr.b.keep (K5.trans0 k)) (by omega) ((hmo x hx).keep (K5.trans0 k)) (by have := (f4 x.m (hmm x hx)).1; omega) (by have := (f4 x.m (hmm x hx)).2; omega) (f5 x.m (hmm x hx)) f9)) ?_
      rintro e w6 ⟨rfl, k6⟩
      have K6 := K5.trans0 k6
      have aa6 := at_mono aa5 k6
      have kr6 : Keeps w6 w6 none_ := Keeps.refl _ _
      refine ⟨_, rfl, ?_⟩; (first | refine Then.go hmix ?_ | refine Sat.go hmix ?_ | refine ResK.go ?_ | skip); conv => whnf
      rw [hany]
      by_cases c10 : A.mails.all (fitM A) = true
      rotate_left
      · have c10 : A.mails.all (fitM A) = false := by simpa using c10
        rw [c10]
        refine KGO ?_
        exact ⟨ret_bool (by unfold rightA; rw [c10]; simp), K6⟩
      rw [c10]
      refine KGO ?_
      rw [hemp]
      refine Loop.intro (ι := Nat) (fun i => [(1, .pointer (some ⟨b1, 0, none⟩)), (4, .bool (decide (A.active = []) || hasS (A.scripts.take i) A.active)), (85, .slice h.S.a A.scripts.length h.S.c), (86, .int .i64 (A.scripts.length : Nat)), (87, .int .i64 (i : Nat))])
        (fun i wr => Keeps w6 wr none_ ∧ i ≤ A.scripts.length ∧ (A.scripts.take i).all srcB = true) (fun i => A.scripts.length - i) 0 ⟨rfl, v_bool (by simp [hasS]), rfl, rfl, rfl, trivial⟩ ⟨Keeps.refl _ _, Nat.zero_le _, rfl⟩ ?_
      rintro i gg wr ⟨hK, hi, hall⟩
      have K7 := K6.trans0 hK
      have aa7 := at_mono aa6 hK
      have kr7 : Keeps wr wr none_ := Keeps.refl _ _
      (first | refine Then.go hmix ?_ | refine Sat.go hmix ?_ | refine ResK.go ?_ | skip); conv => whnf
      by_cases hlt : i < A.scripts.length
      · obtain ⟨aS, cS, eS, hS⟩ := rS
        obtain ⟨gS, oS, rfl, hgS, atS⟩ := hS (by omega)
        injection eS with eS _ _
        have atS := at_mono atS K7
        have hsz := f7 A.scripts[i] (List.getElem_mem hlt)
        have htk := List.take_succ_eq_append_getElem hlt
        have hall' : (A.scripts.take (i + 1)).all srcB = srcB A.scripts[i] := by rw [htk, List.all_append, hall]; simp
        have hhas : hasS (A.scripts.take (i + 1)) A.active = (hasS (A.scripts.take i) A.active || decide (A.scripts[i].name = A.active)) := by
          unfold hasS
          rw [htk, List.any_append]; simp
        have hno : srcB A.scripts[i] = false → rightA A = false := fun e => by
          unfold rightA
          rw [show A.scripts.all srcB = false from List.all_eq_false.2 ⟨_, List.getElem_mem hlt, by rw [e]; simp⟩]
          simp
        rw [eS]
        refine KGO ?_
        generalize A.scripts[i] = s at *
        have hz : (str s.text).size = s.text.length := str_size s.text
        refine Store.fresh (vs := srcC s) (by rfl) rfl (flat_of (by rfl)) ?_
        have a_b6 := at_fresh wr 76 (srcC s)
        have k_w8 : Keeps wr (wr.alloc (.cells (List.toArray (srcC s)) 76)) none_ := (Keeps.refl _ _).alloc _
        have z_w8 : (wr.alloc (.cells (List.toArray (srcC s)) 76)).heap.size = wr.heap.size + 1 := by simp
        generalize wr.alloc (.cells (List.toArray (srcC s)) 76) = w8 at *
        generalize hs_b6 : wr.heap.size = b6 at *
        have K8 := K7.trans0 k_w8
        have aa8 := at_mono aa7 k_w8
        have kr8 : Keeps w8 w8 none_ := Keeps.refl _ _
        refine KGO ?_
        refine CallS.of (Tryz.call61 _ _) (ac_named (w := w8) s.name (by omega)) ?_
        rintro e w8' ⟨rfl, rfl⟩
        refine ⟨_, rfl, ?_⟩; (first | refine Then.go hmix ?_ | refine Sat.go hmix ?_ | refine ResK.go ?_ | skip); conv => whnf
        by_cases d1 : scB s.name = true
        rotate_left
        · have d1 : scB s.name = false := by simpa using d1
          rw [d1]
          refine KGO ?_
          exact ⟨ret_bool (hno (by unfold srcB; rw [d1]; rfl)).symm, K8⟩
        rw [d1]
        by_cases d2 : s.text.length ≤ 32768
        rotate_left
        · refine KGO ?_
          exact ⟨ret_bool (hno (by unfold srcB; rw [decide_eq_false d2]; simp)).symm, K8⟩
        have d3 : srcB s = true := by unfold srcB; rw [d1, decide_eq_true d2]; rfl
        have hcm : decide (str s.name = str A.active) = decide (s.name = A.active) := decide_eq_decide.2 str_inj
        by_cases d4 : (decide (A.active = []) || hasS (A.scripts.take i) A.active) = true
        · rw [d4]
          refine KGO ?_
          exact ⟨i + 1, ⟨rfl, v_bool (by rw [hhas, ← Bool.or_assoc, d4]; rfl), rfl, rfl, v_int (by simp), trivial⟩, ⟨hK.trans0 k_w8, by omega, by rw [hall']; exact d3⟩, by dsimp only; omega⟩
        · have d4 : (decide (A.active = []) || hasS (A.scripts.take i) A.active) = false := by simpa using d4
          rw [d4]
          refine KGO ?_
          exact ⟨i + 1, ⟨rfl, v_bool (by rw [hhas, ← Bool.or_assoc, d4, hcm]; rfl), rfl, rfl, v_int (by simp), trivial⟩, ⟨hK.trans0 k_w8, by omega, by rw [hall']; exact d3⟩, by dsimp only; omega⟩
      rw [List.take_of_length_le (by omega)] at hall ⊢
      have z6 := hK.size
      refine KGO ?_
      clear hi hlt
      refine RunV.makeMap rfl ?_
      have m1 : GMap encS (wr.alloc (.map #[] 0)) wr.heap.size ([] : GM (List UInt8)) := GMap.new wr
      have k8 : Keeps wr (wr.alloc (.map #[] 0)) none_ := (Keeps.refl _ _).alloc _
      have z7 := K7.size
      generalize hbm : wr.heap.size = bm at *
      generalize wr.alloc (.map #[] 0) = w8 at *
      have K8 := K7.trans0 k8
      have aa8 := at_mono aa7 k8
      have kr8 : Keeps w8 w8 none_ := Keeps.refl _ _
      refine KGO ?_
      refine Loop.intro (ι := Nat × GM (List UInt8)) (fun p => [(1, .pointer (some ⟨b1, 0, none⟩)), (4, .bool (decide (A.active = []) || hasS A.scripts A.active)), (7, .map (some bm)), (112, .slice h.N.a A.seen.length h.N.c), (113, .int .i64 (A.seen.length : Nat)), (114, .int .i64 (p.1 : Nat))])
        (fun p wq => Keeps w wq none_ ∧ p.1 ≤ A.seen.length ∧ GMap encS wq bm p.2 ∧ KeyM p.2 ((A.seen.take p.1).map (·.key)) ∧ keysB [] A.seen = keysB ((A.seen.take p.1).map (·.key)) (A.seen.drop p.1)) (fun p => A.seen.length - p.1) (0, []) ⟨rfl, rfl, rfl, rfl, rfl, rfl, trivial⟩ ⟨K8, Nat.zero_le _, m1, fun k => rfl, rfl⟩ ?_
      clear aa8 kr8 k8 K8 m1
      rintro ⟨i, gm⟩ gq wq ⟨K9, hi, hg, hkm, hkb⟩
      dsimp only at hi hg hkm hkb ⊢
      have kr9 : Keeps wq wq none_ := Keeps.refl _ _
      (first | refine Then.go hmix ?_ | refine Sat.go hmix ?_ | refine ResK.go ?_ | skip); conv => whnf
      by_cases hlt : i < A.seen.length
      · obtain ⟨aN, cN, eN, hN⟩ := rN
        obtain ⟨gN, oN, rfl, hgN, atN⟩ := hN (by omega)
        injection eN with eN _ _
        have atN := at_mono atN K9
        have htk : (A.seen.take (i + 1)).map (·.key) = (A.seen.take i).map (·.key) ++ [A.seen[i].key] := by rw [List.take_succ_eq_append_getElem hlt, List.map_append]; rfl
        rw [List.drop_eq_getElem_cons hlt, keysB] at hkb
        rw [← htk] at hkb
        have hno : keysB [] A.seen = false → rightA A = false := fun e => by unfold rightA; rw [e]; simp
        rw [eN]
        refine KGO ?_
        generalize A.seen[i] = s at *
        have hz : (str s.key).size = s.key.length := str_size s.key
        refine Store.fresh (vs := snC s) (by rfl) rfl (flat_of (by rfl)) ?_
        have a_b9 := at_fresh wq 78 (snC s)
        have k_w9 : Keeps wq (wq.alloc (.cells (List.toArray (snC s)) 78)) none_ := (Keeps.refl _ _).alloc _
        have z_w9 : (wq.alloc (.cells (List.toArray (snC s)) 78)).heap.size = wq.heap.size + 1 := by simp
        generalize wq.alloc (.cells (List.toArray (snC s)) 78) = w9 at *
        generalize hs_b9 : wq.heap.size = b9 at *
        have hlm := hg.lt
        have hg9 := hg.keep k_w9 fun h => h
        have K10 := K9.trans0 k_w9
        have kr10 : Keeps w9 w9 none_ := Keeps.refl _ _
        by_cases e1 : s.key.length ≤ 1000
        rotate_left
        · refine KGO ?_
          exact ⟨ret_bool (hno (by rw [hkb, decide_eq_false e1]; rfl)).symm, K10⟩
        refine KGO ?_
        refine CallS.of (Tryz.call38 _ _) (ac_in (w := w9) s.at_ 0 1099511627776) ?_
        rintro e w9' ⟨rfl, rfl⟩
        refine ⟨_, rfl, ?_⟩; (first | refine Then.go hmix ?_ | refine Sat.go hmix ?_ | refine ResK.go ?_ | skip); conv => whnf
        by_cases e2 : inR s.at_ 0 1099511627776 = true
        rotate_left
        · have e2 : inR s.at_ 0 1099511627776 = false := by simpa using e2
          rw [e2]
          refine KGO ?_
          exact ⟨ret_bool (hno (by rw [hkb, e2]; simp)).symm, K10⟩
        rw [e2]
        refine KGO ?_
        refine RunV.lookG keyStr Tryz.underlying90 (Tryz.zeroValue4 _) hg9 s.key rfl ?_
        rw [hkm s.key]
        by_cases e3 : s.key ∈ (A.seen.take i).map (·.key)
        · rw [if_pos e3]
          refine KGO ?_
          exact ⟨ret_bool (hno (by rw [hkb, decide_eq_true e3]; simp)).symm, K10⟩
        rw [if_neg e3]
        refine KGO ?_
        refine RunU.updG keyStr Tryz.underlying90 hg9 s.key rfl _ fun w10 g10 k10 => ?_
        refine KGO ?_
        exact ⟨(i + 1, gm.put s.key (.bool true)), ⟨rfl, rfl, rfl, rfl, rfl, v_int (by simp), trivial⟩, ⟨keeps_new K10 k10 (by omega), by dsimp only; omega, g10, by dsimp only; rw [htk]; exact hkm.put s.key, by dsimp only; rw [hkb, decide_eq_true e1, e2, decide_eq_false e3]; rfl⟩, by dsimp only; omega⟩
      have hks : keysB [] A.seen = true := by rw [hkb, List.drop_of_length_le (by omega)]; rfl
      refine KGO ?_
      exact ⟨ret_bool (by unfold rightA; rw [hgood, hgl, c8, c9, c10, hall, hks]; rfl), K9⟩
    · refine KGO ?_
      exact ⟨ret_bool (hbad (by rw [hl]; exact decide_eq_false c8)).symm, K3⟩
  · have hgl : Cs.lastB A = true := by
      unfold Cs.lastB
      rw [List.length_eq_zero_iff.1 (by omega : A.boxes.length = 0)]
      rfl
    refine KGO ?_
    clear aa hbad
    have kr3 : Keeps w2.drew w2.drew none_ := Keeps.refl _ _
    generalize w2.drew = w3 at *
    refine CallS.of (Tryz.call54 _ _) (rs_Ml (w := w3) lx 55 (fun x y => idB x.m y.m) (rM.keep K3) (by omega) Tryz.call55 (fun x y w' => ac_Right1 x y)) ?_
    rintro e w4 ⟨rfl, k4⟩
    have K4 := K3.trans0 k4
    have aa4 := at_mono aa3 k4
    have kr4 : Keeps w4 w4 none_ := Keeps.refl _ _
    refine ⟨_, rfl, ?_⟩; (first | refine Then.go hmix ?_ | refine Sat.go hmix ?_ | refine ResK.go ?_ | skip); conv => whnf
    rw [risesB_map idB (·.m) lx, hml]
    by_cases c8 : risesB idB A.mails = true
    rotate_left
    · have c8 : risesB idB A.mails = false := by simpa using c8
      rw [c8]
      refine KGO ?_
      exact ⟨ret_bool (by unfold rightA; rw [c8]; simp), K4⟩
    rw [c8]
    refine KGO ?_
    refine CallS.of (Tryz.call56 _ _) (rs_Src (w := w4) A.scripts 57 nameB (rS.keep K4) (by omega) Tryz.call57 (fun x y w' => ac_Right2 x y)) ?_
    rintro e w5 ⟨rfl, k5⟩
    have K5 := K4.trans0 k5
    have aa5 := at_mono aa4 k5
    have kr5 : Keeps w5 w5 none_ := Keeps.refl _ _
    refine ⟨_, rfl, ?_⟩; (first | refine Then.go hmix ?_ | refine Sat.go hmix ?_ | refine ResK.go ?_ | skip); conv => whnf
    by_cases c9 : risesB nameB A.scripts = true
    rotate_left
    · have c9 : risesB nameB A.scripts = false := by simpa using c9
      rw [c9]
      refine KGO ?_
      exact ⟨ret_bool (by unfold rightA; rw [c9]; simp), K5⟩
    rw [c9]
    refine KGO ?_
    conv => arg 3; simp [ev, upd]
    refine CallS.of (Tryz.call58 _ _) (cnf_Ml1 (w := w5) lx 59 (.pointer (some ⟨b1, 0, none⟩)) (fun x => !fitM A x.m) (rM.keep K5) (by omega) Tryz.call59 (fun x hx w' k => ac_Right3 x (hacc w' (at_mono aa5 k)) (hr.b.keep (K5.trans0 k)) (by omega) ((hmo x hx).keep (K5.trans0 k)) (by have := (f4 x.m (hmm x hx)).1; omega) (by have := (f4 x.m (hmm x hx)).2; omega) (f5 x.m (hmm x hx)) f9)) ?_
    rintro e w6 ⟨rfl, k6⟩
    have K6 := K5.trans0 k6
    have aa6 := at_mono aa5 k6
    have kr6 : Keeps w6 w6 none_ := Keeps.refl _ _
    refine ⟨_, rfl, ?_⟩; (first | refine Then.go hmix ?_ | refine Sat.go hmix ?_ | refine ResK.go ?_ | skip); conv => whnf
    rw [hany]
    by_cases c10 : A.mails.all (fitM A) = true
    rotate_left
    · have c10 : A.mails.all (fitM A) = false := by simpa using c10
      rw [c10]
      refine KGO ?_
      exact ⟨ret_bool (by unfold rightA; rw [c10]; simp), K6⟩
    rw [c10]
    refine KGO ?_
    rw [hemp]
    refine Loop.intro (ι := Nat) (fun i => [(1, .pointer (some ⟨b1, 0, none⟩)), (4, .bool (decide (A.active = []) || hasS (A.scripts.take i) A.active)), (85, .slice h.S.a A.scripts.length h.S.c), (86, .int .i64 (A.scripts.length : Nat)), (87, .int .i64 (i : Nat))])
      (fun i wr => Keeps w6 wr none_ ∧ i ≤ A.scripts.length ∧ (A.scripts.take i).all srcB = true) (fun i => A.scripts.length - i) 0 ⟨rfl, v_bool (by simp [hasS]), rfl, rfl, rfl, trivial⟩ ⟨Keeps.refl _ _, Nat.zero_le _, rfl⟩ ?_
    rintro i gg wr ⟨hK, hi, hall⟩
    have K7 := K6.trans0 hK
    have aa7 := at_mono aa6 hK
    have kr7 : Keeps wr wr none_ := Keeps.refl _ _
    (first | refine Then.go hmix ?_ | refine Sat.go hmix ?_ | refine ResK.go ?_ | skip); conv => whnf
    by_cases hlt : i < A.scripts.length
    · obtain ⟨aS, cS, eS, hS⟩ := rS
      obtain ⟨gS, oS, rfl, hgS, atS⟩ := hS (by omega)
      injection eS with eS _ _
      have atS := at_mono atS K7
      have hsz := f7 A.scripts[i] (List.getElem_mem hlt)
      have htk := List.take_succ_eq_append_getElem hlt
      have hall' : (A.scripts.take (i + 1)).all srcB = srcB A.scripts[i] := by rw [htk, List.all_append, hall]; simp
      have hhas : hasS (A.scripts.take (i + 1)) A.active = (hasS (A.scripts.take i) A.active || decide (A.scripts[i].name = A.active)) := by
        unfold hasS
        rw [htk, List.any_append]; simp
      have hno : srcB A.scripts[i] = false → rightA A = false := fun e => by
        unfold rightA
        rw [show A.scripts.all srcB = false from List.all_eq_false.2 ⟨_, List.getElem_mem hlt, by rw [e]; simp⟩]
        simp
      rw [eS]
      refine KGO ?_
      generalize A.scripts[i] = s at *
      have hz : (str s.text).size = s.text.length := str_size s.text
      refine Store.fresh (vs := srcC s) (by rfl) rfl (flat_of (by rfl)) ?_
      have a_b6 := at_fresh wr 76 (srcC s)
      have k_w8 : Keeps wr (wr.alloc (.cells (List.toArray (srcC s)) 76)) none_ := (Keeps.refl _ _).alloc _
      have z_w8 : (wr.alloc (.cells (List.toArray (srcC s)) 76)).heap.size = wr.heap.size + 1 := by simp
      generalize wr.alloc (.cells (List.toArray (srcC s)) 76) = w8 at *
      generalize hs_b6 : wr.heap.size = b6 at *
      have K8 := K7.trans0 k_w8
      have aa8 := at_mono aa7 k_w8
      have kr8 : Keeps w8 w8 none_ := Keeps.refl _ _
      refine KGO ?_
      refine CallS.of (Tryz.call61 _ _) (ac_named (w := w8) s.name (by omega)) ?_
      rintro e w8' ⟨rfl, rfl⟩
      refine ⟨_, rfl, ?_⟩; (first | refine Then.go hmix ?_ | refine Sat.go hmix ?_ | refine ResK.go ?_ | skip); conv => whnf
      by_cases d1 : scB s.name = true
      rotate_left
      · have d1 : scB s.name = false := by simpa using d1
        rw [d1]
        refine KGO ?_
        exact ⟨ret_bool (hno (by unfold srcB; rw [d1]; rfl)).symm, K8⟩
      rw [d1]
      by_cases d2 : s.text.length ≤ 32768
      rotate_left
      · refine KGO ?_
        exact ⟨ret_bool (hno (by unfold srcB; rw [decide_eq_false d2]; simp)).symm, K8⟩
      have d3 : srcB s = true := by unfold srcB; rw [d1, decide_eq_true d2]; rfl
      have hcm : decide (str s.name = str A.active) = decide (s.name = A.active) := decide_eq_decide.2 str_inj
      by_cases d4 : (decide (A.active = []) || hasS (A.scripts.take i) A.active) = true
      · rw [d4]
        refine KGO ?_
        exact ⟨i + 1, ⟨rfl, v_bool (by rw [hhas, ← Bool.or_assoc, d4]; rfl), rfl, rfl, v_int (by simp), trivial⟩, ⟨hK.trans0 k_w8, by omega, by rw [hall']; exact d3⟩, by dsimp only; omega⟩
      · have d4 : (decide (A.active = []) || hasS (A.scripts.take i) A.active) = false := by simpa using d4
        rw [d4]
        refine KGO ?_
        exact ⟨i + 1, ⟨rfl, v_bool (by rw [hhas, ← Bool.or_assoc, d4, hcm]; rfl), rfl, rfl, v_int (by simp), trivial⟩, ⟨hK.trans0 k_w8, by omega, by rw [hall']; exact d3⟩, by dsimp only; omega⟩
    rw [List.take_of_length_le (by omega)] at hall ⊢
    have z6 := hK.size
    refine KGO ?_
    clear hi hlt
    refine RunV.makeMap rfl ?_
    have m1 : GMap encS (wr.alloc (.map #[] 0)) wr.heap.size ([] : GM (List UInt8)) := GMap.new wr
    have k8 : Keeps wr (wr.alloc (.map #[] 0)) none_ := (Keeps.refl _ _).alloc _
    have z7 := K7.size
    generalize hbm : wr.heap.size = bm at *
    generalize wr.alloc (.map #[] 0) = w8 at *
    have K8 := K7.trans0 k8
    have aa8 := at_mono aa7 k8
    have kr8 : Keeps w8 w8 none_ := Keeps.refl _ _
    refine KGO ?_
    refine Loop.intro (ι := Nat × GM (List UInt8)) (fun p => [(1, .pointer (some ⟨b1, 0, none⟩)), (4, .bool (decide (A.active = []) || hasS A.scripts A.active)), (7, .map (some bm)), (112, .slice h.N.a A.seen.length h.N.c), (113, .int .i64 (A.seen.length : Nat)), (114, .int .i64 (p.1 : Nat))])
      (fun p wq => Keeps w wq none_ ∧ p.1 ≤ A.seen.length ∧ GMap encS wq bm p.2 ∧ KeyM p.2 ((A.seen.take p.1).map (·.key)) ∧ keysB [] A.seen = keysB ((A.seen.take p.1).map (·.key)) (A.seen.drop p.1)) (fun p => A.seen.length - p.1) (0, []) ⟨rfl, rfl, rfl, rfl, rfl, rfl, trivial⟩ ⟨K8, Nat.zero_le _, m1, fun k => rfl, rfl⟩ ?_
    clear aa8 kr8 k8 K8 m1
    rintro ⟨i, gm⟩ gq wq ⟨K9, hi, hg, hkm, hkb⟩
    dsimp only at hi hg hkm hkb ⊢
    have kr9 : Keeps wq wq none_ := Keeps.refl _ _
    (first | refine Then.go hmix ?_ | refine Sat.go hmix ?_ | refine ResK.go ?_ | skip); conv => whnf
    by_cases hlt : i < A.seen.length
    · obtain ⟨aN, cN, eN, hN⟩ := rN
      obtain ⟨gN, oN, rfl, hgN, atN⟩ := hN (by omega)
      injection eN with eN _ _
      have atN := at_mono atN K9
      have htk : (A.seen.take (i + 1)).map (·.key) = (A.seen.take i).map (·.key) ++ [A.seen[i].key] := by rw [List.take_succ_eq_append_getElem hlt, List.map_append]; rfl
      rw [List.drop_eq_getElem_cons hlt, keysB] at hkb
      rw [← htk] at hkb
      have hno : keysB [] A.seen = false → rightA A = false := fun e => by unfold rightA; rw [e]; simp
      rw [eN]
      refine KGO ?_
      generalize A.seen[i] = s at *
      have hz : (str s.key).size = s.key.length := str_size s.key
      refine Store.fresh (vs := snC s) (by rfl) rfl (flat_of (by rfl)) ?_
      have a_b9 := at_fresh wq 78 (snC s)
      have k_w9 : Keeps wq (wq.alloc (.cells (List.toArray (snC s)) 78)) none_ := (Keeps.refl _ _).alloc _
      have z_w9 : (wq.alloc (.cells (List.toArray (snC s)) 78)).heap.size = wq.heap.size + 1 := by simp
      generalize wq.alloc (.cells (List.toArray (snC s)) 78) = w9 at *
      generalize hs_b9 : wq.heap.size = b9 at *
      have hlm := hg.lt
      have hg9 := hg.keep k_w9 fun h => h
      have K10 := K9.trans0 k_w9
      have kr10 : Keeps w9 w9 none_ := Keeps.refl _ _
      by_cases e1 : s.key.length ≤ 1000
      rotate_left
      · refine KGO ?_
        exact ⟨ret_bool (hno (by rw [hkb, decide_eq_false e1]; rfl)).symm, K10⟩
      refine KGO ?_
      refine CallS.of (Tryz.call38 _ _) (ac_in (w := w9) s.at_ 0 1099511627776) ?_
      rintro e w9' ⟨rfl, rfl⟩
      refine ⟨_, rfl, ?_⟩; (first | refine Then.go hmix ?_ | refine Sat.go hmix ?_ | refine ResK.go ?_ | skip); conv => whnf
      by_cases e2 : inR s.at_ 0 1099511627776 = true
      rotate_left
      · have e2 : inR s.at_ 0 1099511627776 = false := by simpa using e2
        rw [e2]
        refine KGO ?_
        exact ⟨ret_bool (hno (by rw [hkb, e2]; simp)).symm, K10⟩
      rw [e2]
      refine KGO ?_
      refine RunV.lookG keyStr Tryz.underlying90 (Tryz.zeroValue4 _) hg9 s.key rfl ?_
      rw [hkm s.key]
      by_cases e3 : s.key ∈ (A.seen.take i).map (·.key)
      · rw [if_pos e3]
        refine KGO ?_
        exact ⟨ret_bool (hno (by rw [hkb, decide_eq_true e3]; simp)).symm, K10⟩
      rw [if_neg e3]
      refine KGO ?_
      refine RunU.updG keyStr Tryz.underlying90 hg9 s.key rfl _ fun w10 g10 k10 => ?_
      refine KGO ?_
      exact ⟨(i + 1, gm.put s.key (.bool true)), ⟨rfl, rfl, rfl, rfl, rfl, v_int (by simp), trivial⟩, ⟨keeps_new K10 k10 (by omega), by dsimp only; omega, g10, by dsimp only; rw [htk]; exact hkm.put s.key, by dsimp only; rw [hkb, decide_eq_true e1, e2, decide_eq_false e3]; rfl⟩, by dsimp only; omega⟩
    have hks : keysB [] A.seen = true := by rw [hkb, List.drop_of_length_le (by omega)]; rfl
    refine KGO ?_
    exact ⟨ret_bool (by unfold rightA; rw [hgood, hgl, c8, c9, c10, hall, hks]; rfl), K9⟩
end
end Go.Proofs.YtohhkegmbgancaaGreatDoor
