/- Helper text of this claim: Cr7: lemmas and contracts that the proved statement rests on; no conditions of its own. -/
import Derived.Test.YtmipmlcolaaonaaDoorCr6
import Derived.Test.YtmipmlcolaaonaaDoorWcz
-- alias Tryd
namespace Go.Proofs.YtmipmlcolaaonaaDoor
open Go.RowKit Go.Pw Go.Vc Go.Cs Go.Lib
set_option linter.unusedVariables false
set_option maxRecDepth 100000
theorem flat_set {α : Type} (f : α → List Value) (n : Nat) (hf : ∀ x, (f x).length = n) (u : Value) : ∀ (l : List α) (i j : Nat) (x y : α), l[i]? = some x → j < n → f y = (f x).set j u → (l.flatMap f).set (i * n + j) u = (l.set i y).flatMap f
  | [], i, j, x, y, h, _, _ => by simp at h
  | a :: r, 0, j, x, y, h, hj, he => by
    simp at h; subst h
    rw [List.flatMap_cons, List.set_append_left _ _ (by rw [hf]; omega), List.set_cons_zero, List.flatMap_cons, he]
    simp
  | a :: r, i + 1, j, x, y, h, hj, he => by
    rw [List.flatMap_cons, List.set_append_right _ _ (by rw [hf, Nat.add_mul]; omega), hf, show (i + 1) * n + j - n = i * n + j by rw [Nat.add_mul]; omega, flat_set f n hf u r i j x y (by simpa using h) hj he]
    simp
def mk0 (p : Nat × Nat) : Wd := ([], p.1, p.2)
theorem build_word0 (a b : Int) (w : World) : (Instr.build 41 [(1, .int .i64 a), (2, .int .i64 b)].toArray).run Tryd.prog w = .ok (.agg #[.string ⟨#[]⟩, .int .i64 a, .int .i64 b]) w := by
  simp [Instr.build, Instr.fill, go_sem, Tryd.runUnderlying41]
theorem set_word {w : World} {B g cap : Nat} {l : List Wd} (h : Wds w B (.slice (some ⟨g, 0, none⟩) l.length cap) l) {i : Nat} {x y : Wd} (hi : l[i]? = some x) (j : Nat) (hj : j < 3) (u : Value) (he : wordCells y = (wordCells x).set j u) :
    Wds (w.setCell ⟨g, 0 + i * 3 + j, none⟩ u) B (.slice (some ⟨g, 0, none⟩) l.length cap) (l.set i y) := by
  have h1 := (World.ownsRow.stored h (0 + i * 3 + j) u).1
  unfold Wds
  rw [List.length_set, ← flat_set wordCells 3 (fun _ => rfl) u l i j x y hi hj he]
  rw [Nat.zero_add] at h1 ⊢
  exact h1
def half (l : List UInt8) (ps : List (Nat × Nat)) (i : Nat) : List Wd := (ps.take i).map (mk l) ++ (ps.drop i).map mk0
theorem half_len (l : List UInt8) (ps : List (Nat × Nat)) (i : Nat) (hi : i ≤ ps.length) : (half l ps i).length = ps.length := by
  unfold half; simp; omega
theorem half_at (l : List UInt8) (ps : List (Nat × Nat)) (i : Nat) (hi : i < ps.length) : (half l ps i)[i]? = some (mk0 ps[i]) := by
  unfold half
  rw [List.getElem?_append_right (by simp; omega)]
  simp [Nat.min_eq_left (Nat.le_of_lt hi), hi]
theorem half_set (l : List UInt8) (ps : List (Nat × Nat)) (i : Nat) (hi : i < ps.length) : (half l ps i).set i (mk l ps[i]) = half l ps (i + 1) := by
  unfold half
  rw [List.set_append_right _ _ (by simp; omega), List.drop_eq_getElem_cons hi, List.take_succ_eq_append_getElem hi]
  rw [List.length_map, List.length_take, Nat.min_eq_left (Nat.le_of_lt hi), Nat.sub_self, List.map_cons, List.set_cons_zero, List.map_append, List.append_assoc]
  rfl
section
variable {w : World}
set_option maxHeartbeats 4000000 in
theorem ref_Words32 (s : ByteArray) (hs : s.size ≤ 10000000) : Calls Tryd.prog 37 #[.string s] w fun e w' => ∃ v, e = .returned v ∧ Wds w' w.heap.size v (wordsL (L s)) ∧ Keeps w w' none_ := by
  have hl := L_len s
  have hul := units_len (L s)
  have hun := units_unit (L s)
  have hcl := us_class (L s)
  have hW := us_W (L s)
  have hfin := (refW_eq (us (L s)) (fun q hq => (hcl q hq).1) 0 []).1
  rw [List.nil_append] at hfin
  have hbd := places_bd (L s)
  rw [wordsL_eq]
  rw [units_us] at hfin hW hcl
  rw [units_us] at hbd
  rw [units_us]
  refine calls_of_vc (args := [.string s]) Tryd.func37 rfl (Nat.le_of_ble_eq_true rfl) ?_; refine Sat.go hmix ?_; conv => whnf
  refine CallS.of (Tryd.call71 _ _) (ref_Units05 (w := w) s (by omega)) ?_
  rintro e w1 ⟨v1, rfl, hU, k1⟩
  generalize units (L s) = U at *
  obtain ⟨au, cu, rfl, hrd⟩ := own_rd hU
  refine ⟨_, rfl, ?_⟩; (first | refine Then.go hmix ?_ | refine Sat.go hmix ?_ | refine ResK.go ?_ | skip); conv => whnf
  refine GO ?_
  refine Loop.intro (ι := Nat × Nat × Bool × Option Addr × Nat × List (Nat × Nat)) (fun i => [(0, .string s), (3, .slice au U.length cu), (4, .slice i.2.2.2.1 i.2.2.2.2.2.length i.2.2.2.2.1), (5, .int .i64 (i.2.1 : Nat)), (6, .bool i.2.2.1), (7, .int .i64 (i.1 : Nat))])
    (fun i wr => Keeps w1 wr none_ ∧ i.1 ≤ U.length ∧ Wds wr w1.heap.size (.slice i.2.2.2.1 i.2.2.2.2.2.length i.2.2.2.2.1) (i.2.2.2.2.2.map mk0) ∧
      refW ((U.drop i.1).map fun u => (clsN (decodeL u), u.length)) i.2.1 i.2.2.2.2.2 i.2.2.1 = wd (U.map fun u => (clsN (decodeL u), u.length)) 0 none ∧
      i.2.1 + W ((U.drop i.1).map fun u => (clsN (decodeL u), u.length)) = s.size ∧ (∀ p ∈ i.2.2.2.2.2, p.1 ≤ p.2 ∧ p.2 ≤ i.2.1) ∧ i.2.2.2.2.2.length ≤ i.1 ∧ (i.2.2.1 = true → i.2.2.2.2.2 ≠ [])) (fun i => U.length - i.1) (0, 0, false, none, 0, []) ⟨rfl, rfl, rfl, rfl, rfl, rfl, trivial⟩
    ⟨Keeps.refl _ _, Nat.zero_le _, World.ownsRow_nil _ _ _ _, hfin, by rw [List.drop_zero, hW, hl]; simp, by simp, Nat.le_refl _, by simp⟩ ?_
  rintro ⟨n, at_, op, a, cap, ps⟩ g wr ⟨hK, hn, hv, he, hat, hps, hpl, hop⟩
  dsimp only at hn hv he hat hps hpl hop ⊢
  (first | refine Then.go hmix ?_ | refine Sat.go hmix ?_ | refine ResK.go ?_ | skip); conv => whnf
  by_cases hlt : n < U.length
  · obtain ⟨gu, rfl, hg, hau⟩ := hrd (by omega)
    have c0 : wr.cell? ⟨gu, 0 + n, none⟩ = some (.string (str U[n])) := at_text (at_keep hau hK) hlt
    have c0d : wr.drew.cell? ⟨gu, 0 + n, none⟩ = some (.string (str U[n])) := c0
    have hu := hun U[n] (List.getElem_mem hlt)
    have hk2 := (hcl (clsN (decodeL U[n]), U[n].length) (List.mem_map_of_mem (List.getElem_mem hlt))).1
    rw [List.drop_eq_getElem_cons hlt, List.map_cons, refW] at he
    rw [List.drop_eq_getElem_cons hlt, List.map_cons, W_cons] at hat
    have hul4 := unit_le4 _ hu
    have hof := ref_of32 (w := wr) U[n] hu hul4
    generalize U[n] = u at *
    have hsz : (str u).size = u.length := str_size u
    dsimp only at hk2 hat
    generalize clsN (decodeL u) = k at *
    refine GO ?_
    refine CallS.of (Tryd.call72 _ _) hof ?_
    rintro e w2 ⟨rfl, rfl⟩
    refine ⟨_, rfl, ?_⟩; (first | refine Then.go hmix ?_ | refine Sat.go hmix ?_ | refine ResK.go ?_ | skip); conv => whnf
    have c00 : w1.cell? ⟨gu, 0 + n, none⟩ = some (.string (str u)) := (hK.cell (p := ⟨gu, 0 + n, none⟩) hg id).symm.trans c0
    rcases (show k = 0 ∨ k = 1 ∨ k = 2 by omega) with rfl | rfl | rfl
    · rw [if_neg (by omega), if_neg (by omega)] at he
      refine GO ?_
      exact ⟨(n + 1, at_ + u.length, false, a, cap, ps), ⟨rfl, rfl, rfl, v_int (by rw [hsz]; simp), rfl, v_int (by simp), trivial⟩, ⟨hK.drew, by dsimp only; omega, hv, he, by dsimp only; omega, fun p hp => by have := hps p hp; dsimp only; omega, by dsimp only; omega, fun h => by cases h⟩, by dsimp only; omega⟩
    · cases op with
      | false =>
        rw [if_neg (by simp), if_pos (by omega)] at he
        refine GO ?_
        rw [show ((at_ : Int) + ((str u).size : Nat)) = ((at_ + u.length : Nat) : Int) by rw [hsz]; rfl]
        refine RunV.of (build_word0 _ _ _) ?_
        (first | refine Then.go hmix ?_ | refine Sat.go hmix ?_ | refine ResK.go ?_ | skip); conv => whnf
        refine RunV.of (build_words1 _ _ _ _) ?_
        (first | refine Then.go hmix ?_ | refine Sat.go hmix ?_ | refine ResK.go ?_ | skip); conv => whnf
        refine app_word (w := wr.drew) (B := w1.heap.size) hv (Nat.le_trans hK.size (Keeps.refl wr none_).drew.size) (mk0 (at_, at_ + u.length)) (by rw [List.length_map]; omega) fun v' w3 h3 g3 => ?_
        have K3 : Keeps w1 w3 none_ := (hK.drew.alloc _).own (own_keep0 (w := wr.drew) hv ((Keeps.refl _ _).alloc _)) (Nat.le_refl _) g3
        have e3 : List.map mk0 ps ++ [mk0 (at_, at_ + u.length)] = List.map mk0 (ps ++ [(at_, at_ + u.length)]) := by simp
        rw [e3] at h3
        obtain ⟨a3, c3, rfl⟩ : ∃ a c, v' = .slice a (ps ++ [(at_, at_ + u.length)]).length c := by
          obtain ⟨a, c, e⟩ := own_shape h3
          exact ⟨a, c, by rw [e, List.length_map]⟩
        have c3 : w3.cell? ⟨gu, 0 + n, none⟩ = some (.string (str u)) := (K3.cell (p := ⟨gu, 0 + n, none⟩) hg id).trans c00
        refine GO ?_
        exact ⟨(n + 1, at_ + u.length, true, a3, _, ps ++ [(at_, at_ + u.length)]), ⟨rfl, rfl, rfl, v_int (by rw [hsz]; simp), rfl, v_int (by simp), trivial⟩, ⟨K3, by dsimp only; omega, h3, he, by dsimp only; omega, fun p hp => by
          dsimp only at hp ⊢
          rcases List.mem_append.1 hp with h | h
          · have := hps p h; omega
          · simp at h; subst h; dsimp only; omega, by dsimp only; rw [List.length_append]; show ps.length + 1 ≤ _; omega, fun _ => by simp⟩, by dsimp only; omega⟩
      | true =>
        obtain ⟨C, q, hq⟩ : ∃ C q, ps = C ++ [q] := ⟨ps.dropLast, ps.getLast (hop rfl), (List.dropLast_concat_getLast (hop rfl)).symm⟩
        have hpq := hps q (by rw [hq]; simp)
        have hlC : ps.length = C.length + 1 := by rw [hq]; simp
        have hrd2 := own_rd hv
        obtain ⟨ag, ac, hae, hrd2⟩ := hrd2
        injection hae with ha1 ha2 ha3
        subst ha1
        obtain ⟨go, rfl, hgo, hat2⟩ := hrd2 (by rw [List.length_map]; omega)
        have hi1 : C.length < (List.map mk0 ps).length := by rw [List.length_map]; omega
        have hcs := at_word hat2 hi1
        have hqe : (List.map mk0 ps)[C.length] = mk0 q := by simp [hq]
        rw [hqe] at hcs
        have d1 : wr.drew.cell? ⟨go, 0 + C.length * 3 + 1, none⟩ = some (.int .i64 (q.1 : Nat)) := hcs 1 _ rfl
        have d2 : wr.drew.cell? ⟨go, 0 + C.length * 3 + 2, none⟩ = some (.int .i64 (q.2 : Nat)) := hcs 2 _ rfl
        rw [show ((ps.length : Nat) : Int) - 1 = ((C.length : Nat) : Int) by omega]
        have he1 : ps.getLastD (0, 0) = q := by rw [hq, List.getLastD_concat]
        have he2 : ps.dropLast = C := by rw [hq, List.dropLast_concat]
        rw [he1, he2] at he
        by_cases h40 : q.2 - q.1 + u.length ≤ 40
        · rw [if_pos ⟨rfl, rfl, h40⟩] at he
          have d3 : wr.drew.drew.cell? ⟨go, 0 + C.length * 3 + 2, none⟩ = some (.int .i64 (q.2 : Nat)) := d2
          have d4 : wr.drew.drew.cell? ⟨gu, 0 + n, none⟩ = some (.string (str u)) := c0
          refine GO ?_
          rw [show ((q.2 : Nat) : Int) + ((str u).size : Nat) = ((q.2 + u.length : Nat) : Int) by rw [hsz]; rfl]
          have hvn : wr.drew.drew.ownsRow w1.heap.size 41 3 (.slice (some ⟨go, 0, none⟩) ps.length cap) ps.length ((ps.map mk0).flatMap wordCells) := by
            have h := hv
            unfold Wds at h
            rw [List.length_map] at h
            exact h
          refine Store.one (by rfl) ⟨rfl, by simp, by simp⟩ d3 (World.ownsRow.frozenAt hvn _) ?_
          have hv2 := set_word (w := wr.drew.drew) (B := w1.heap.size) (g := go) (cap := cap) (l := List.map mk0 ps) (by rw [List.length_map]; exact hv) (i := C.length) (x := mk0 q) (y := mk0 (q.1, q.2 + u.length)) (by rw [List.getElem?_eq_getElem hi1, hqe]) 2 (by omega) (.int .i64 ((q.2 + u.length : Nat) : Int)) rfl
          have hset : (List.map mk0 ps).set C.length (mk0 (q.1, q.2 + u.length)) = List.map mk0 (C ++ [(q.1, q.2 + u.length)]) := by
            rw [hq, List.map_append, List.set_append_right _ _ (by simp)]; simp
          rw [hset, List.length_map] at hv2
          have hgb : w1.heap.size ≤ go := (hv.lt go rfl).1
          have K3 : Keeps w1 (wr.drew.drew.setCell ⟨go, 0 + C.length * 3 + 2, none⟩ (.int .i64 ((q.2 + u.length : Nat) : Int))) none_ := hK.drew.drew.setCell (p := ⟨go, 0 + C.length * 3 + 2, none⟩) (.inr hgb) _
          generalize wr.drew.drew.setCell ⟨go, 0 + C.length * 3 + 2, none⟩ (.int .i64 ((q.2 + u.length : Nat) : Int)) = w3 at *
          have c3 : w3.cell? ⟨gu, 0 + n, none⟩ = some (.string (str u)) := (K3.cell (p := ⟨gu, 0 + n, none⟩) hg id).trans c00
          have hl3 : ps.length = (C ++ [(q.1, q.2 + u.length)]).length := by rw [hlC]; simp
          rw [hl3]
          refine GO ?_
          exact ⟨(n + 1, at_ + u.length, true, _, cap, C ++ [(q.1, q.2 + u.length)]), ⟨rfl, rfl, rfl, v_int (by rw [hsz]; simp), rfl, v_int (by simp), trivial⟩, ⟨K3, by dsimp only; omega, by dsimp only; rw [← hl3]; exact hv2, he, by dsimp only; omega, fun p hp => by
            dsimp only at hp ⊢
            rcases List.mem_append.1 hp with h | h
            · have := hps p (by rw [hq]; simp [h]); omega
            · simp at h; subst h; dsimp only; omega, by dsimp only; rw [← hl3]; omega, fun _ => by simp⟩, by dsimp only; omega⟩
        · rw [if_neg (fun h => h40 h.2.2), if_pos (by omega)] at he
          refine GO ?_
          rw [show ((at_ : Int) + ((str u).size : Nat)) = ((at_ + u.length : Nat) : Int) by rw [hsz]; rfl]
          refine RunV.of (build_word0 _ _ _) ?_
          (first | refine Then.go hmix ?_ | refine Sat.go hmix ?_ | refine ResK.go ?_ | skip); conv => whnf
          refine RunV.of (build_words1 _ _ _ _) ?_
          (first | refine Then.go hmix ?_ | refine Sat.go hmix ?_ | refine ResK.go ?_ | skip); conv => whnf
          refine app_word (w := wr.drew) (B := w1.heap.size) hv (Nat.le_trans hK.size (Keeps.refl wr none_).drew.size) (mk0 (at_, at_ + u.length)) (by rw [List.length_map]; omega) fun v' w3 h3 g3 => ?_
          have K3 : Keeps w1 w3 none_ := (hK.drew.alloc _).own (own_keep0 (w := wr.drew) hv ((Keeps.refl _ _).alloc _)) (Nat.le_refl _) g3
          have e3 : List.map mk0 ps ++ [mk0 (at_, at_ + u.length)] = List.map mk0 (ps ++ [(at_, at_ + u.length)]) := by simp
          rw [e3] at h3
          obtain ⟨a3, c3, rfl⟩ : ∃ a c, v' = .slice a (ps ++ [(at_, at_ + u.length)]).length c := by
            obtain ⟨a, c, e⟩ := own_shape h3
            exact ⟨a, c, by rw [e, List.length_map]⟩
          have c3 : w3.cell? ⟨gu, 0 + n, none⟩ = some (.string (str u)) := (K3.cell (p := ⟨gu, 0 + n, none⟩) hg id).trans c00
          refine GO ?_
          exact ⟨(n + 1, at_ + u.length, true, a3, _, ps ++ [(at_, at_ + u.length)]), ⟨rfl, rfl, rfl, v_int (by rw [hsz]; simp), rfl, v_int (by simp), trivial⟩, ⟨K3, by dsimp only; omega, h3, he, by dsimp only; omega, fun p hp => by
            dsimp only at hp ⊢
            rcases List.mem_append.1 hp with h | h
            · have := hps p h; omega
            · simp at h; subst h; dsimp only; omega, by dsimp only; rw [List.length_append]; show ps.length + 1 ≤ _; omega, fun _ => by simp⟩, by dsimp only; omega⟩
    · rw [if_neg (by omega), if_pos (by omega)] at he
      refine GO ?_
      rw [show ((at_ : Int) + ((str u).size : Nat)) = ((at_ + u.length : Nat) : Int) by rw [hsz]; rfl]
      refine RunV.of (build_word0 _ _ _) ?_
      (first | refine Then.go hmix ?_ | refine Sat.go hmix ?_ | refine ResK.go ?_ | skip); conv => whnf
      refine RunV.of (build_words1 _ _ _ _) ?_
      (first | refine Then.go hmix ?_ | refine Sat.go hmix ?_ | refine ResK.go ?_ | skip); conv => whnf
      refine app_word (w := wr.drew) (B := w1.heap.size) hv (Nat.le_trans hK.size (Keeps.refl wr none_).drew.size) (mk0 (at_, at_ + u.length)) (by rw [List.length_map]; omega) fun v' w3 h3 g3 => ?_
      have K3 : Keeps w1 w3 none_ := (hK.drew.alloc _).own (own_keep0 (w := wr.drew) hv ((Keeps.refl _ _).alloc _)) (Nat.le_refl _) g3
      have e3 : List.map mk0 ps ++ [mk0 (at_, at_ + u.length)] = List.map mk0 (ps ++ [(at_, at_ + u.length)]) := by simp
      rw [e3] at h3
      obtain ⟨a3, c3, rfl⟩ : ∃ a c, v' = .slice a (ps ++ [(at_, at_ + u.length)]).length c := by
        obtain ⟨a, c, e⟩ := own_shape h3
        exact ⟨a, c, by rw [e, List.length_map]⟩
      have c3 : w3.cell? ⟨gu, 0 + n, none⟩ = some (.string (str u)) := (K3.cell (p := ⟨gu, 0 + n, none⟩) hg id).trans c00
      refine GO ?_
      exact ⟨(n + 1, at_ + u.length, false, a3, _, ps ++ [(at_, at_ + u.length)]), ⟨rfl, rfl, rfl, v_int (by rw [hsz]; simp), rfl, v_int (by simp), trivial⟩, ⟨K3, by dsimp only; omega, h3, he, by dsimp only; omega, fun p hp => by
        dsimp only at hp ⊢
        rcases List.mem_append.1 hp with h | h
        · have := hps p h; omega
        · simp at h; subst h; dsimp only; omega, by dsimp only; rw [List.length_append]; show ps.length + 1 ≤ _; omega, fun _ => by simp⟩, by dsimp only; omega⟩
  · refine GO ?_
    have hnn : n = U.length := by omega
    subst hnn
    rw [List.drop_length, List.map_nil, refW] at he
    rw [← he] at hbd ⊢
    have hvn : wr.ownsRow w1.heap.size 41 3 (.slice a ps.length cap) ps.length ((half (L s) ps 0).flatMap wordCells) := by
      have h := hv
      unfold Wds at h
      rw [List.length_map] at h
      exact h
    have hpsz : ∀ p ∈ ps, p.1 ≤ p.2 ∧ p.2 ≤ s.size := fun p hp => by have := hps p hp; omega
    clear hv hfin hps he hcl hbd hop hat
    refine Loop.intro (ι := Nat) (fun i => [(0, .string s), (4, .slice a ps.length cap), (10, .int .i64 (i : Nat))])
      (fun i wr => Keeps w1 wr none_ ∧ i ≤ ps.length ∧ wr.ownsRow w1.heap.size 41 3 (.slice a ps.length cap) ps.length ((half (L s) ps i).flatMap wordCells)) (fun i => ps.length - i) 0 ⟨rfl, rfl, rfl, trivial⟩
      ⟨hK, Nat.zero_le _, hvn⟩ ?_
    rintro i g2 wr2 ⟨hK2, hi, hv2⟩
    (first | refine Then.go hmix ?_ | refine Sat.go hmix ?_ | refine ResK.go ?_ | skip); conv => whnf
    by_cases hlt2 : i < ps.length
    · obtain ⟨go, rfl, hgb, hgo, hat2⟩ := own_at hv2 (by omega)
      have hlh := half_len (L s) ps i hi
      have hih : i < (half (L s) ps i).length := by omega
      have hcs := at_word hat2 hih
      have hqe : (half (L s) ps i)[i] = mk0 ps[i] := by
        have h1 := half_at (L s) ps i hlt2
        rw [List.getElem?_eq_getElem hih] at h1
        exact Option.some.inj h1
      rw [hqe] at hcs
      have hpp := hpsz ps[i] (List.getElem_mem hlt2)
      have hset := half_set (L s) ps i hlt2
      have hgx := half_at (L s) ps i hlt2
      generalize ps[i] = q at *
      have f0 : ∀ u, Keeps wr2 u none_ → u.cell? ⟨go, 0 + i * 3 + 0, none⟩ = some (.string ⟨#[]⟩) := fun u k => at_keep hcs k 0 _ rfl
      have f1 : ∀ u, Keeps wr2 u none_ → u.cell? ⟨go, 0 + i * 3 + 1, none⟩ = some (.int .i64 (q.1 : Nat)) := fun u k => at_keep hcs k 1 _ rfl
      have f2 : ∀ u, Keeps wr2 u none_ → u.cell? ⟨go, 0 + i * 3 + 2, none⟩ = some (.int .i64 (q.2 : Nat)) := fun u k => at_keep hcs k 2 _ rfl
      refine GO ?_
      have d1 : wr2.drew.cell? ⟨go, 0 + i * 3 + 1, none⟩ = some (.int .i64 (q.1 : Nat)) := f1 _ (Keeps.refl _ _).drew
      have d2 : wr2.drew.cell? ⟨go, 0 + i * 3 + 2, none⟩ = some (.int .i64 (q.2 : Nat)) := f2 _ (Keeps.refl _ _).drew
      obtain ⟨hp1, hp2⟩ := hpp
      refine GO ?_
      have hLx : L (s.extract q.1 q.2) = cutL (L s) q := L_extract s q.1 q.2
      refine CallS.of (Tryd.call73 _ _) (ref_Fold05 (w := wr2.drew) (s.extract q.1 q.2) (by rw [ByteArray.size_extract]; omega)) ?_
      rintro e w3 ⟨rfl, k3⟩
      rw [hLx]
      have k3' : Keeps wr2 w3 none_ := (Keeps.refl _ _).drew.trans0 k3
      refine ⟨_, rfl, ?_⟩; (first | refine Then.go hmix ?_ | refine Sat.go hmix ?_ | refine ResK.go ?_ | skip); conv => whnf
      refine GO ?_
      have hv3 : w3.ownsRow w1.heap.size 41 3 (.slice (some ⟨go, 0, none⟩) ps.length cap) ps.length ((half (L s) ps i).flatMap wordCells) := own_keep0 hv2 k3'
      refine Store.one (by rfl) ⟨rfl, by simp, by simp⟩ (f0 w3 k3') (World.ownsRow.frozenAt hv3 _) ?_
      have hv4 := set_word (w := w3) (B := w1.heap.size) (g := go) (cap := cap) (l := half (L s) ps i) (by rw [← hlh] at hv3; exact hv3) (i := i) (x := mk0 q) (y := mk (L s) q) hgx 0 (by omega) (.string (str (foldL (cutL (L s) q)))) rfl
      rw [hset] at hv4
      have K4 : Keeps w1 (w3.setCell ⟨go, 0 + i * 3 + 0, none⟩ (.string (str (foldL (cutL (L s) q))))) none_ := (hK2.trans0 k3').setCell (p := ⟨go, 0 + i * 3 + 0, none⟩) (.inr hgb) _
      have hv5 : (w3.setCell ⟨go, 0 + i * 3 + 0, none⟩ (.string (str (foldL (cutL (L s) q))))).ownsRow w1.heap.size 41 3 (.slice (some ⟨go, 0, none⟩) ps.length cap) ps.length ((half (L s) ps (i + 1)).flatMap wordCells) := by
        have hl5 := half_len (L s) ps (i + 1) (by omega)
        unfold Wds at hv4
        rw [hl5, hlh] at hv4
        exact hv4
      generalize w3.setCell ⟨go, 0 + i * 3 + 0, none⟩ (.string (str (foldL (cutL (L s) q)))) = w4 at *
      refine GO ?_
      exact ⟨i + 1, ⟨rfl, rfl, v_int (by simp), trivial⟩, ⟨K4, by omega, hv5⟩, by dsimp only; omega⟩
    · refine GO ?_
      have e : i = ps.length := by omega
      subst e
      refine ⟨_, rfl, ?_, k1.trans0 hK2⟩
      unfold Wds
      rw [List.length_map]
      have hh : half (L s) ps ps.length = ps.map (mk (L s)) := by unfold half; simp
      rw [hh] at hv2
      exact own_base hv2 k1.size
end
end Go.Proofs.YtmipmlcolaaonaaDoor
