/- Helper text of this claim: Bl6: lemmas and contracts that the proved statement rests on; no conditions of its own. -/
import Derived.Test.YtdghfagipheabaaDoorBl5
-- alias Tryd
namespace Go.Proofs.YtdghfagipheabaaDoor
open Go.RowKit Go.Pw Go.Vc Go.Cs Go.Lib
set_option linter.unusedVariables false
set_option maxRecDepth 100000
theorem str_nil (s : List UInt8) : decide (str s = (⟨#[]⟩ : ByteArray)) = decide (s = []) := by
  by_cases h : s = []
  · rw [h]; rfl
  · rw [decide_eq_false h]
    exact decide_eq_false fun e => h (by have := congrArg L e; rwa [L_str] at this)
theorem tail_eq (s : List UInt8) (n : Nat) : (str s).extract n (str s).size = str (s.drop n) := by
  have := L_from (str s) n
  rw [L_str] at this
  rw [← this, str_L]
theorem head_eq (s t : List UInt8) (n : Nat) : decide ((str s).extract 0 n = str t ++ (⟨#[47]⟩ : ByteArray)) = decide (s.take n = t ++ [47]) := by
  rw [extract_str, L_str, List.drop_zero, show str t ++ (⟨#[47]⟩ : ByteArray) = str (t ++ [47]) from str_append t [47], decide_eq_decide, str_eq]
section
variable {w w' : World}
set_option maxHeartbeats 8000000 in
theorem lw_Within {v : Value} (l : List Bx) (id up : Int) (hv : RowB w v l) (hlen : l.length ≤ 9223372036854775807) (hE : BEnv w) :
    Calls Tryd.prog 6 #[v, .int .i64 id, .int .i64 up] w fun e w' => e = .returned (.bool true) ∧ Keeps w w' none_ := by
  have hv0 := hv
  obtain ⟨a, cap, rfl, hr⟩ := hv
  refine calls_of_vc (args := [.slice a l.length cap, .int .i64 id, .int .i64 up]) Tryd.func6 rfl (Nat.le_of_ble_eq_true rfl) ?_; refine Sat.go hmix ?_; conv => whnf
  refine CallS.of (Tryd.call7 _ _) (lw_small (w := w) hE) ?_
  rintro e w1 ⟨rfl, K1⟩
  refine ⟨_, rfl, ?_⟩; (first | refine Then.go hmix ?_ | refine Sat.go hmix ?_ | refine ResK.go ?_ | skip); conv => whnf
  refine KGO ?_
  refine CallS.of (Tryd.call8 _ _) (lw_few (w := w1) l (hv0.keep K1) hlen) ?_
  rintro e w2 ⟨⟨q, rfl, hq⟩, j2⟩
  have K2 := K1.trans0 j2
  refine ⟨_, rfl, ?_⟩; (first | refine Then.go hmix ?_ | refine Sat.go hmix ?_ | refine ResK.go ?_ | skip); conv => whnf
  cases q with
  | false =>
    refine KGO ?_
    exact ⟨rfl, K2⟩
  | true =>
    obtain ⟨hs, h70⟩ := small_few (hq rfl)
    refine KGO ?_
    refine CallS.of (Tryd.call13 _ _) (bx_Right (w := w2) l (hv0.keep K2) (by omega) hs (hE.F.keep K2) (hE.T.keep K2) (hE.R.keep K2)) ?_
    rintro e w3 ⟨rfl, j3⟩
    have K3 := K2.trans0 j3
    refine ⟨_, rfl, ?_⟩; (first | refine Then.go hmix ?_ | refine Sat.go hmix ?_ | refine ResK.go ?_ | skip); conv => whnf
    by_cases h1 : rightL l = true
    rotate_left
    · rw [show rightL l = false by simpa using h1]
      refine KGO ?_
      exact ⟨rfl, K3⟩
    rw [h1]
    have hR := (rightL_iff l).1 h1
    have hO := full_short hR id
    have hT := full_short hR up
    obtain ⟨ms1, ms2, ms3⟩ := move_says hR id up
    refine KGO ?_
    refine CallS.of (Tryd.call17 _ _) (bx_Full (w := w3) l id (by omega) hs (hv0.keep K3) (hE.keep K3)) ?_
    rintro e w4 ⟨rfl, j4⟩
    have K4 := K3.trans0 j4
    refine ⟨_, rfl, ?_⟩; (first | refine Then.go hmix ?_ | refine Sat.go hmix ?_ | refine ResK.go ?_ | skip); conv => whnf
    refine KGO ?_
    refine CallS.of (Tryd.call17 _ _) (bx_Full (w := w4) l up (by omega) hs (hv0.keep K4) (hE.keep K4)) ?_
    rintro e w5 ⟨rfl, j5⟩
    have K5 := K4.trans0 j5
    refine ⟨_, rfl, ?_⟩; (first | refine Then.go hmix ?_ | refine Sat.go hmix ?_ | refine ResK.go ?_ | skip); conv => whnf
    refine KGO ?_
    refine CallS.of (Tryd.call23 _ _) (bx_Move (w := w5) l id up (hv0.keep K5) (by omega) hs (hE.keep K5)) ?_
    rintro e w6 ⟨v6, rfl, o6, j6⟩
    have K6 := K5.trans0 j6
    have r6 := o6.row
    clear o6
    obtain ⟨a6, c6, rfl⟩ := row_shape r6
    refine ⟨_, rfl, ?_⟩; (first | refine Then.go hmix ?_ | refine Sat.go hmix ?_ | refine ResK.go ?_ | skip); conv => whnf
    refine KGO ?_
    have d1 := str_nil (fullL l id)
    have d2 := str_nil (fullL l up)
    by_cases p1 : fullL l id = []
    · rw [ms1 (.inl p1)]
      rw [decide_eq_true p1] at d1
      refine KGO ?_
      exact ⟨rfl, K6⟩
    rw [decide_eq_false p1] at d1
    by_cases p2 : up = 0
    · have g5 : ¬ (fullL l id = [] ∨ up ≠ 0 ∧ fullL l up = []) := fun h => h.elim p1 fun h => h.1 p2
      generalize hOe : fullL l id = O at *
      generalize hTe : fullL l up = T at *
      by_cases p4 : up = id
      · have h11 := ms2 g5 (.inl p4)
        clear ms1 ms2 ms3 g5
        rw [h11]
        refine KGO ?_
        exact ⟨rfl, K6⟩
      have hsz1 := str_size O
      have hsz2 := str_size T
      have d6 := head_eq T O (O.length + 1)
      by_cases p5 : O.length < T.length
      · by_cases p6 : T.take (O.length + 1) = O ++ [47]
        · rw [decide_eq_true p6] at d6
          have h11 := ms2 g5 (.inr ⟨p5, p6⟩)
          clear ms1 ms2 ms3 g5
          rw [h11]
          refine KGO ?_
          have c9 : ((str O).size : Int) + 1 = ((O.length + 1 : Nat) : Int) := by omega
          rw [c9]
          refine KGO ?_
          refine RunV.cat (by rw [hsz1]; show _ + 1 ≤ _; omega) ?_
          refine KGO ?_
          exact ⟨rfl, K6⟩
        · have g6 : ¬ (up = id ∨ O.length < T.length ∧ T.take (O.length + 1) = O ++ [47]) := fun h => h.elim p4 fun h => p6 h.2
          rw [decide_eq_false p6] at d6
          have hm := ms3 g5 g6
          clear ms1 ms2 ms3 g5 g6
          by_cases p7 : (moveL l id up).2 = 0
          rotate_left
          · rcases hm p7 with h | h
            · clear hm p7
              rw [h]
              refine KGO ?_
              have c9 : ((str O).size : Int) + 1 = ((O.length + 1 : Nat) : Int) := by omega
              rw [c9]
              refine KGO ?_
              refine RunV.cat (by rw [hsz1]; show _ + 1 ≤ _; omega) ?_
              refine KGO ?_
              refine KGO ?_
              exact ⟨rfl, K6⟩
            · clear hm p7
              rw [h]
              refine KGO ?_
              have c9 : ((str O).size : Int) + 1 = ((O.length + 1 : Nat) : Int) := by omega
              rw [c9]
              refine KGO ?_
              refine RunV.cat (by rw [hsz1]; show _ + 1 ≤ _; omega) ?_
              refine KGO ?_
              refine KGO ?_
              exact ⟨rfl, K6⟩
          clear hm
          obtain ⟨_, x, hx, rfl, hok⟩ := (move_iff _ _).1 p7
          have hres := move_res (l := l) (id := x.id) (up := up)
          rw [if_pos p7] at hres
          rw [p7]
          rw [hres] at r6 ⊢
          clear p7 hres
          have hml : (setUp l x.id up).length = l.length := by unfold setUp; rw [List.length_map]
          refine KGO ?_
          have c9 : ((str O).size : Int) + 1 = ((O.length + 1 : Nat) : Int) := by omega
          rw [c9]
          refine KGO ?_
          refine RunV.cat (by rw [hsz1]; show _ + 1 ≤ _; omega) ?_
          refine KGO ?_
          refine KGO ?_
          have hR6 : RightP (setUp l x.id up) := right_move hR hx hok.par hok.loop hok.deep hok.free
          have hs6 := small_right hR6
          have hN := full_short hR6 x.id
          have hl64 := hR.len
          have hmv : ∀ j (hj : j < l.length), fullL (setUp l x.id up) l[j].id = movedS O (fullL (setUp l x.id up) x.id) (fullL l l[j].id) := fun j hj => by
            rw [← hOe]; exact moved_full hR hx hok (List.getElem_mem hj)
          refine CallS.of (Tryd.call17 _ _) (bx_Full (w := w6) (setUp l x.id up) x.id (by omega) hs6 r6 (hE.keep K6)) ?_
          rintro e w7 ⟨rfl, k7⟩
          have K7 := K6.trans0 k7
          generalize hNe : fullL (setUp l x.id up) x.id = N at *
          generalize setUp l x.id up = m at *
          have hsN := str_size N
          refine ⟨_, rfl, ?_⟩; (first | refine Then.go hmix ?_ | refine Sat.go hmix ?_ | refine ResK.go ?_ | skip); conv => whnf
          refine KGO ?_
          refine Loop.intro (ι := Nat) (fun j => [(0, .slice a l.length cap), (7, .bool true), (9, .string (str O)), (11, .slice a6 m.length c6), (13, .string (str N)), (14, .int .i64 (j : Nat))])
            (fun j wr => Keeps w6 wr none_ ∧ j ≤ l.length) (fun j => l.length - j) 0 ⟨rfl, rfl, rfl, rfl, rfl, rfl, trivial⟩ ⟨k7, Nat.zero_le _⟩ ?_
          rintro j gg wr ⟨jr, hj⟩
          have Kr := K6.trans0 jr
          (first | refine Then.go hmix ?_ | refine Sat.go hmix ?_ | refine ResK.go ?_ | skip); conv => whnf
          by_cases hjt : j < l.length
          · obtain ⟨gb, o, rfl, hgb, hat⟩ := hr (by omega)
            have hmj := hmv j hjt
            have hS := full_short hR l[j].id
            have hM := full_short hR6 l[j].id
            refine KGO ?_
            refine CallS.of (Tryd.call17 _ _) (bx_Full (w := wr) l l[j].id (by omega) hs (hv0.keep Kr) (hE.keep Kr)) ?_
            rintro e w8 ⟨rfl, k8⟩
            have K8 := Kr.trans0 k8
            have J8 := jr.trans0 k8
            generalize fullL l l[j].id = S at *
            have hsS := str_size S
            have e1 := head_eq S O (O.length + 1)
            have c9 : ((str O).size : Int) + 1 = ((O.length + 1 : Nat) : Int) := by omega
            refine ⟨_, rfl, ?_⟩; (first | refine Then.go hmix ?_ | refine Sat.go hmix ?_ | refine ResK.go ?_ | skip); conv => whnf
            by_cases s1 : O.length < S.length
            · by_cases s2 : S.take (O.length + 1) = O ++ [47]
              · rw [decide_eq_true s2] at e1
                rw [movedS, if_pos (.inl ⟨s1, s2⟩)] at hmj
                refine KGO ?_
                rw [c9]
                refine KGO ?_
                refine RunV.cat (by rw [hsz1]; show _ + 1 ≤ _; omega) ?_
                refine KGO ?_
                rw [hsz1, tail_eq]
                refine RunV.cat (by rw [str_size, str_size, List.length_drop]; omega) ?_
                rw [show str N ++ str (S.drop O.length) = str (N ++ S.drop O.length) from str_append _ _]
                generalize N ++ S.drop O.length = Z at hmj ⊢
                refine KGO ?_
                refine CallS.of (Tryd.call17 _ _) (bx_Full (w := w8) m l[j].id (by omega) hs6 (r6.keep J8) (hE.keep K8)) ?_
                rintro e w9 ⟨rfl, k9⟩
                rw [hmj]
                have e9 : (!decide (str Z = str Z)) = false := by simp
                refine ⟨_, rfl, ?_⟩; (first | refine Then.go hmix ?_ | refine Sat.go hmix ?_ | refine ResK.go ?_ | skip); conv => whnf
                refine KGO ?_
                exact ⟨j + 1, ⟨rfl, rfl, rfl, rfl, rfl, v_int (by simp), trivial⟩, ⟨J8.trans0 k9, by omega⟩, by dsimp only; omega⟩
              · rw [decide_eq_false s2] at e1
                have s3 : ¬ S = O := fun e => by rw [e] at s1; omega
                have e3 : decide (str S = str O) = false := decide_eq_false fun e => s3 ((str_eq _ _).1 e)
                rw [movedS, if_neg (fun h => h.elim (fun h => s2 h.2) s3)] at hmj
                refine KGO ?_
                rw [c9]
                refine KGO ?_
                refine RunV.cat (by rw [hsz1]; show _ + 1 ≤ _; omega) ?_
                refine KGO ?_
                refine CallS.of (Tryd.call17 _ _) (bx_Full (w := w8) m l[j].id (by omega) hs6 (r6.keep J8) (hE.keep K8)) ?_
                rintro e w9 ⟨rfl, k9⟩
                rw [hmj]
                have e9 : (!decide (str S = str S)) = false := by simp
                refine ⟨_, rfl, ?_⟩; (first | refine Then.go hmix ?_ | refine Sat.go hmix ?_ | refine ResK.go ?_ | skip); conv => whnf
                refine KGO ?_
                exact ⟨j + 1, ⟨rfl, rfl, rfl, rfl, rfl, v_int (by simp), trivial⟩, ⟨J8.trans0 k9, by omega⟩, by dsimp only; omega⟩
            · by_cases s3 : S = O
              · have e3 : decide (str S = str O) = true := decide_eq_true (by rw [s3])
                have s4 : S.length = O.length := by rw [s3]
                rw [movedS, if_pos (.inr s3)] at hmj
                refine KGO ?_
                rw [hsz1, tail_eq]
                refine RunV.cat (by rw [str_size, str_size, List.length_drop]; omega) ?_
                rw [show str N ++ str (S.drop O.length) = str (N ++ S.drop O.length) from str_append _ _]
                generalize N ++ S.drop O.length = Z at hmj ⊢
                refine KGO ?_
                refine CallS.of (Tryd.call17 _ _) (bx_Full (w := w8) m l[j].id (by omega) hs6 (r6.keep J8) (hE.keep K8)) ?_
                rintro e w9 ⟨rfl, k9⟩
                rw [hmj]
                have e9 : (!decide (str Z = str Z)) = false := by simp
                refine ⟨_, rfl, ?_⟩; (first | refine Then.go hmix ?_ | refine Sat.go hmix ?_ | refine ResK.go ?_ | skip); conv => whnf
                refine KGO ?_
                exact ⟨j + 1, ⟨rfl, rfl, rfl, rfl, rfl, v_int (by simp), trivial⟩, ⟨J8.trans0 k9, by omega⟩, by dsimp only; omega⟩
              · have e3 : decide (str S = str O) = false := decide_eq_false fun e => s3 ((str_eq _ _).1 e)
                rw [movedS, if_neg (fun h => h.elim (fun h => s1 h.1) s3)] at hmj
                refine KGO ?_
                refine CallS.of (Tryd.call17 _ _) (bx_Full (w := w8) m l[j].id (by omega) hs6 (r6.keep J8) (hE.keep K8)) ?_
                rintro e w9 ⟨rfl, k9⟩
                rw [hmj]
                have e9 : (!decide (str S = str S)) = false := by simp
                refine ⟨_, rfl, ?_⟩; (first | refine Then.go hmix ?_ | refine Sat.go hmix ?_ | refine ResK.go ?_ | skip); conv => whnf
                refine KGO ?_
                exact ⟨j + 1, ⟨rfl, rfl, rfl, rfl, rfl, v_int (by simp), trivial⟩, ⟨J8.trans0 k9, by omega⟩, by dsimp only; omega⟩
          · refine KGO ?_
            exact ⟨rfl, Kr⟩
      · have g6 : ¬ (up = id ∨ O.length < T.length ∧ T.take (O.length + 1) = O ++ [47]) := fun h => h.elim p4 fun h => p5 h.1
        clear d6
        have hm := ms3 g5 g6
        clear ms1 ms2 ms3 g5 g6
        by_cases p7 : (moveL l id up).2 = 0
        rotate_left
        · rcases hm p7 with h | h
          · clear hm p7
            rw [h]
            skip
            refine KGO ?_
            exact ⟨rfl, K6⟩
          · clear hm p7
            rw [h]
            skip
            refine KGO ?_
            exact ⟨rfl, K6⟩
        clear hm
        obtain ⟨_, x, hx, rfl, hok⟩ := (move_iff _ _).1 p7
        have hres := move_res (l := l) (id := x.id) (up := up)
        rw [if_pos p7] at hres
        rw [p7]
        rw [hres] at r6 ⊢
        clear p7 hres
        have hml : (setUp l x.id up).length = l.length := by unfold setUp; rw [List.length_map]
        skip
        refine KGO ?_
        have hR6 : RightP (setUp l x.id up) := right_move hR hx hok.par hok.loop hok.deep hok.free
        have hs6 := small_right hR6
        have hN := full_short hR6 x.id
        have hl64 := hR.len
        have hmv : ∀ j (hj : j < l.length), fullL (setUp l x.id up) l[j].id = movedS O (fullL (setUp l x.id up) x.id) (fullL l l[j].id) := fun j hj => by
          rw [← hOe]; exact moved_full hR hx hok (List.getElem_mem hj)
        refine CallS.of (Tryd.call17 _ _) (bx_Full (w := w6) (setUp l x.id up) x.id (by omega) hs6 r6 (hE.keep K6)) ?_
        rintro e w7 ⟨rfl, k7⟩
        have K7 := K6.trans0 k7
        generalize hNe : fullL (setUp l x.id up) x.id = N at *
        generalize setUp l x.id up = m at *
        have hsN := str_size N
        refine ⟨_, rfl, ?_⟩; (first | refine Then.go hmix ?_ | refine Sat.go hmix ?_ | refine ResK.go ?_ | skip); conv => whnf
        refine KGO ?_
        refine Loop.intro (ι := Nat) (fun j => [(0, .slice a l.length cap), (7, .bool true), (9, .string (str O)), (11, .slice a6 m.length c6), (13, .string (str N)), (14, .int .i64 (j : Nat))])
          (fun j wr => Keeps w6 wr none_ ∧ j ≤ l.length) (fun j => l.length - j) 0 ⟨rfl, rfl, rfl, rfl, rfl, rfl, trivial⟩ ⟨k7, Nat.zero_le _⟩ ?_
        rintro j gg wr ⟨jr, hj⟩
        have Kr := K6.trans0 jr
        (first | refine Then.go hmix ?_ | refine Sat.go hmix ?_ | refine ResK.go ?_ | skip); conv => whnf
        by_cases hjt : j < l.length
        · obtain ⟨gb, o, rfl, hgb, hat⟩ := hr (by omega)
          have hmj := hmv j hjt
          have hS := full_short hR l[j].id
          have hM := full_short hR6 l[j].id
          refine KGO ?_
          refine CallS.of (Tryd.call17 _ _) (bx_Full (w := wr) l l[j].id (by omega) hs (hv0.keep Kr) (hE.keep Kr)) ?_
          rintro e w8 ⟨rfl, k8⟩
          have K8 := Kr.trans0 k8
          have J8 := jr.trans0 k8
          generalize fullL l l[j].id = S at *
          have hsS := str_size S
          have e1 := head_eq S O (O.length + 1)
          have c9 : ((str O).size : Int) + 1 = ((O.length + 1 : Nat) : Int) := by omega
          refine ⟨_, rfl, ?_⟩; (first | refine Then.go hmix ?_ | refine Sat.go hmix ?_ | refine ResK.go ?_ | skip); conv => whnf
          by_cases s1 : O.length < S.length
          · by_cases s2 : S.take (O.length + 1) = O ++ [47]
            · rw [decide_eq_true s2] at e1
              rw [movedS, if_pos (.inl ⟨s1, s2⟩)] at hmj
              refine KGO ?_
              rw [c9]
              refine KGO ?_
              refine RunV.cat (by rw [hsz1]; show _ + 1 ≤ _; omega) ?_
              refine KGO ?_
              rw [hsz1, tail_eq]
              refine RunV.cat (by rw [str_size, str_size, List.length_drop]; omega) ?_
              rw [show str N ++ str (S.drop O.length) = str (N ++ S.drop O.length) from str_append _ _]
              generalize N ++ S.drop O.length = Z at hmj ⊢
              refine KGO ?_
              refine CallS.of (Tryd.call17 _ _) (bx_Full (w := w8) m l[j].id (by omega) hs6 (r6.keep J8) (hE.keep K8)) ?_
              rintro e w9 ⟨rfl, k9⟩
              rw [hmj]
              have e9 : (!decide (str Z = str Z)) = false := by simp
              refine ⟨_, rfl, ?_⟩; (first | refine Then.go hmix ?_ | refine Sat.go hmix ?_ | refine ResK.go ?_ | skip); conv => whnf
              refine KGO ?_
              exact ⟨j + 1, ⟨rfl, rfl, rfl, rfl, rfl, v_int (by simp), trivial⟩, ⟨J8.trans0 k9, by omega⟩, by dsimp only; omega⟩
            · rw [decide_eq_false s2] at e1
              have s3 : ¬ S = O := fun e => by rw [e] at s1; omega
              have e3 : decide (str S = str O) = false := decide_eq_false fun e => s3 ((str_eq _ _).1 e)
              rw [movedS, if_neg (fun h => h.elim (fun h => s2 h.2) s3)] at hmj
              refine KGO ?_
              rw [c9]
              refine KGO ?_
              refine RunV.cat (by rw [hsz1]; show _ + 1 ≤ _; omega) ?_
              refine KGO ?_
              refine CallS.of (Tryd.call17 _ _) (bx_Full (w := w8) m l[j].id (by omega) hs6 (r6.keep J8) (hE.keep K8)) ?_
              rintro e w9 ⟨rfl, k9⟩
              rw [hmj]
              have e9 : (!decide (str S = str S)) = false := by simp
              refine ⟨_, rfl, ?_⟩; (first | refine Then.go hmix ?_ | refine Sat.go hmix ?_ | refine ResK.go ?_ | skip); conv => whnf
              refine KGO ?_
              exact ⟨j + 1, ⟨rfl, rfl, rfl, rfl, rfl, v_int (by simp), trivial⟩, ⟨J8.trans0 k9, by omega⟩, by dsimp only; omega⟩
          · by_cases s3 : S = O
            · have e3 : decide (str S = str O) = true := decide_eq_true (by rw [s3])
              have s4 : S.length = O.length := by rw [s3]
              rw [movedS, if_pos (.inr s3)] at hmj
              refine KGO ?_
              rw [hsz1, tail_eq]
              refine RunV.cat (by rw [str_size, str_size, List.length_drop]; omega) ?_
              rw [show str N ++ str (S.drop O.length) = str (N ++ S.drop O.length) from str_append _ _]
              generalize N ++ S.drop O.length = Z at hmj ⊢
              refine KGO ?_
              refine CallS.of (Tryd.call17 _ _) (bx_Full (w := w8) m l[j].id (by omega) hs6 (r6.keep J8) (hE.keep K8)) ?_
              rintro e w9 ⟨rfl, k9⟩
              rw [hmj]
              have e9 : (!decide (str Z = str Z)) = false := by simp
              refine ⟨_, rfl, ?_⟩; (first | refine Then.go hmix ?_ | refine Sat.go hmix ?_ | refine ResK.go ?_ | skip); conv => whnf
              refine KGO ?_
              exact ⟨j + 1, ⟨rfl, rfl, rfl, rfl, rfl, v_int (by simp), trivial⟩, ⟨J8.trans0 k9, by omega⟩, by dsimp only; omega⟩
            · have e3 : decide (str S = str O) = false := decide_eq_false fun e => s3 ((str_eq _ _).1 e)
              rw [movedS, if_neg (fun h => h.elim (fun h => s1 h.1) s3)] at hmj
              refine KGO ?_
              refine CallS.of (Tryd.call17 _ _) (bx_Full (w := w8) m l[j].id (by omega) hs6 (r6.keep J8) (hE.keep K8)) ?_
              rintro e w9 ⟨rfl, k9⟩
              rw [hmj]
              have e9 : (!decide (str S = str S)) = false := by simp
              refine ⟨_, rfl, ?_⟩; (first | refine Then.go hmix ?_ | refine Sat.go hmix ?_ | refine ResK.go ?_ | skip); conv => whnf
              refine KGO ?_
              exact ⟨j + 1, ⟨rfl, rfl, rfl, rfl, rfl, v_int (by simp), trivial⟩, ⟨J8.trans0 k9, by omega⟩, by dsimp only; omega⟩
        · refine KGO ?_
          exact ⟨rfl, Kr⟩
    · by_cases p3 : fullL l up = []
      · rw [decide_eq_true p3] at d2
        rw [ms1 (.inr ⟨p2, p3⟩)]
        refine KGO ?_
        exact ⟨rfl, K6⟩
      · rw [decide_eq_false p3] at d2
        have g5 : ¬ (fullL l id = [] ∨ up ≠ 0 ∧ fullL l up = []) := fun h => h.elim p1 fun h => p3 h.2
        generalize hOe : fullL l id = O at *
        generalize hTe : fullL l up = T at *
        by_cases p4 : up = id
        · have h11 := ms2 g5 (.inl p4)
          clear ms1 ms2 ms3 g5
          rw [h11]
          refine KGO ?_
          exact ⟨rfl, K6⟩
        have hsz1 := str_size O
        have hsz2 := str_size T
        have d6 := head_eq T O (O.length + 1)
        by_cases p5 : O.length < T.length
        · by_cases p6 : T.take (O.length + 1) = O ++ [47]
          · rw [decide_eq_true p6] at d6
            have h11 := ms2 g5 (.inr ⟨p5, p6⟩)
            clear ms1 ms2 ms3 g5
            rw [h11]
            refine KGO ?_
            have c9 : ((str O).size : Int) + 1 = ((O.length + 1 : Nat) : Int) := by omega
            rw [c9]
            refine KGO ?_
            refine RunV.cat (by rw [hsz1]; show _ + 1 ≤ _; omega) ?_
            refine KGO ?_
            exact ⟨rfl, K6⟩
          · have g6 : ¬ (up = id ∨ O.length < T.length ∧ T.take (O.length + 1) = O ++ [47]) := fun h => h.elim p4 fun h => p6 h.2
            rw [decide_eq_false p6] at d6
            have hm := ms3 g5 g6
            clear ms1 ms2 ms3 g5 g6
            by_cases p7 : (moveL l id up).2 = 0
            rotate_left
            · rcases hm p7 with h | h
              · clear hm p7
                rw [h]
                refine KGO ?_
                have c9 : ((str O).size : Int) + 1 = ((O.length + 1 : Nat) : Int) := by omega
                rw [c9]
                refine KGO ?_
                refine RunV.cat (by rw [hsz1]; show _ + 1 ≤ _; omega) ?_
                refine KGO ?_
                refine KGO ?_
                exact ⟨rfl, K6⟩
              · clear hm p7
                rw [h]
                refine KGO ?_
                have c9 : ((str O).size : Int) + 1 = ((O.length + 1 : Nat) : Int) := by omega
                rw [c9]
                refine KGO ?_
                refine RunV.cat (by rw [hsz1]; show _ + 1 ≤ _; omega) ?_
                refine KGO ?_
                refine KGO ?_
                exact ⟨rfl, K6⟩
            clear hm
            obtain ⟨_, x, hx, rfl, hok⟩ := (move_iff _ _).1 p7
            have hres := move_res (l := l) (id := x.id) (up := up)
            rw [if_pos p7] at hres
            rw [p7]
            rw [hres] at r6 ⊢
            clear p7 hres
            have hml : (setUp l x.id up).length = l.length := by unfold setUp; rw [List.length_map]
            refine KGO ?_
            have c9 : ((str O).size : Int) + 1 = ((O.length + 1 : Nat) : Int) := by omega
            rw [c9]
            refine KGO ?_
            refine RunV.cat (by rw [hsz1]; show _ + 1 ≤ _; omega) ?_
            refine KGO ?_
            refine KGO ?_
            have hR6 : RightP (setUp l x.id up) := right_move hR hx hok.par hok.loop hok.deep hok.free
            have hs6 := small_right hR6
            have hN := full_short hR6 x.id
            have hl64 := hR.len
            have hmv : ∀ j (hj : j < l.length), fullL (setUp l x.id up) l[j].id = movedS O (fullL (setUp l x.id up) x.id) (fullL l l[j].id) := fun j hj => by
              rw [← hOe]; exact moved_full hR hx hok (List.getElem_mem hj)
            refine CallS.of (Tryd.call17 _ _) (bx_Full (w := w6) (setUp l x.id up) x.id (by omega) hs6 r6 (hE.keep K6)) ?_
            rintro e w7 ⟨rfl, k7⟩
            have K7 := K6.trans0 k7
            generalize hNe : fullL (setUp l x.id up) x.id = N at *
            generalize setUp l x.id up = m at *
            have hsN := str_size N
            refine ⟨_, rfl, ?_⟩; (first | refine Then.go hmix ?_ | refine Sat.go hmix ?_ | refine ResK.go ?_ | skip); conv => whnf
            refine KGO ?_
            refine Loop.intro (ι := Nat) (fun j => [(0, .slice a l.length cap), (7, .bool true), (9, .string (str O)), (11, .slice a6 m.length c6), (13, .string (str N)), (14, .int .i64 (j : Nat))])
              (fun j wr => Keeps w6 wr none_ ∧ j ≤ l.length) (fun j => l.length - j) 0 ⟨rfl, rfl, rfl, rfl, rfl, rfl, trivial⟩ ⟨k7, Nat.zero_le _⟩ ?_
            rintro j gg wr ⟨jr, hj⟩
            have Kr := K6.trans0 jr
            (first | refine Then.go hmix ?_ | refine Sat.go hmix ?_ | refine ResK.go ?_ | skip); conv => whnf
            by_cases hjt : j < l.length
            · obtain ⟨gb, o, rfl, hgb, hat⟩ := hr (by omega)
              have hmj := hmv j hjt
              have hS := full_short hR l[j].id
              have hM := full_short hR6 l[j].id
              refine KGO ?_
              refine CallS.of (Tryd.call17 _ _) (bx_Full (w := wr) l l[j].id (by omega) hs (hv0.keep Kr) (hE.keep Kr)) ?_
              rintro e w8 ⟨rfl, k8⟩
              have K8 := Kr.trans0 k8
              have J8 := jr.trans0 k8
              generalize fullL l l[j].id = S at *
              have hsS := str_size S
              have e1 := head_eq S O (O.length + 1)
              have c9 : ((str O).size : Int) + 1 = ((O.length + 1 : Nat) : Int) := by omega
              refine ⟨_, rfl, ?_⟩; (first | refine Then.go hmix ?_ | refine Sat.go hmix ?_ | refine ResK.go ?_ | skip); conv => whnf
              by_cases s1 : O.length < S.length
              · by_cases s2 : S.take (O.length + 1) = O ++ [47]
                · rw [decide_eq_true s2] at e1
                  rw [movedS, if_pos (.inl ⟨s1, s2⟩)] at hmj
                  refine KGO ?_
                  rw [c9]
                  refine KGO ?_
                  refine RunV.cat (by rw [hsz1]; show _ + 1 ≤ _; omega) ?_
                  refine KGO ?_
                  rw [hsz1, tail_eq]
                  refine RunV.cat (by rw [str_size, str_size, List.length_drop]; omega) ?_
                  rw [show str N ++ str (S.drop O.length) = str (N ++ S.drop O.length) from str_append _ _]
                  generalize N ++ S.drop O.length = Z at hmj ⊢
                  refine KGO ?_
                  refine CallS.of (Tryd.call17 _ _) (bx_Full (w := w8) m l[j].id (by omega) hs6 (r6.keep J8) (hE.keep K8)) ?_
                  rintro e w9 ⟨rfl, k9⟩
                  rw [hmj]
                  have e9 : (!decide (str Z = str Z)) = false := by simp
                  refine ⟨_, rfl, ?_⟩; (first | refine Then.go hmix ?_ | refine Sat.go hmix ?_ | refine ResK.go ?_ | skip); conv => whnf
                  refine KGO ?_
                  exact ⟨j + 1, ⟨rfl, rfl, rfl, rfl, rfl, v_int (by simp), trivial⟩, ⟨J8.trans0 k9, by omega⟩, by dsimp only; omega⟩
                · rw [decide_eq_false s2] at e1
                  have s3 : ¬ S = O := fun e => by rw [e] at s1; omega
                  have e3 : decide (str S = str O) = false := decide_eq_false fun e => s3 ((str_eq _ _).1 e)
                  rw [movedS, if_neg (fun h => h.elim (fun h => s2 h.2) s3)] at hmj
                  refine KGO ?_
                  rw [c9]
                  refine KGO ?_
                  refine RunV.cat (by rw [hsz1]; show _ + 1 ≤ _; omega) ?_
                  refine KGO ?_
                  refine CallS.of (Tryd.call17 _ _) (bx_Full (w := w8) m l[j].id (by omega) hs6 (r6.keep J8) (hE.keep K8)) ?_
                  rintro e w9 ⟨rfl, k9⟩
                  rw [hmj]
                  have e9 : (!decide (str S = str S)) = false := by simp
                  refine ⟨_, rfl, ?_⟩; (first | refine Then.go hmix ?_ | refine Sat.go hmix ?_ | refine ResK.go ?_ | skip); conv => whnf
                  refine KGO ?_
                  exact ⟨j + 1, ⟨rfl, rfl, rfl, rfl, rfl, v_int (by simp), trivial⟩, ⟨J8.trans0 k9, by omega⟩, by dsimp only; omega⟩
              · by_cases s3 : S = O
                · have e3 : decide (str S = str O) = true := decide_eq_true (by rw [s3])
                  have s4 : S.length = O.length := by rw [s3]
                  rw [movedS, if_pos (.inr s3)] at hmj
                  refine KGO ?_
                  rw [hsz1, tail_eq]
                  refine RunV.cat (by rw [str_size, str_size, List.length_drop]; omega) ?_
                  rw [show str N ++ str (S.drop O.length) = str (N ++ S.drop O.length) from str_append _ _]
                  generalize N ++ S.drop O.length = Z at hmj ⊢
                  refine KGO ?_
                  refine CallS.of (Tryd.call17 _ _) (bx_Full (w := w8) m l[j].id (by omega) hs6 (r6.keep J8) (hE.keep K8)) ?_
                  rintro e w9 ⟨rfl, k9⟩
                  rw [hmj]
                  have e9 : (!decide (str Z = str Z)) = false := by simp
                  refine ⟨_, rfl, ?_⟩; (first | refine Then.go hmix ?_ | refine Sat.go hmix ?_ | refine ResK.go ?_ | skip); conv => whnf
                  refine KGO ?_
                  exact ⟨j + 1, ⟨rfl, rfl, rfl, rfl, rfl, v_int (by simp), trivial⟩, ⟨J8.trans0 k9, by omega⟩, by dsimp only; omega⟩
                · have e3 : decide (str S = str O) = false := decide_eq_false fun e => s3 ((str_eq _ _).1 e)
                  rw [movedS, if_neg (fun h => h.elim (fun h => s1 h.1) s3)] at hmj
                  refine KGO ?_
                  refine CallS.of (Tryd.call17 _ _) (bx_Full (w := w8) m l[j].id (by omega) hs6 (r6.keep J8) (hE.keep K8)) ?_
                  rintro e w9 ⟨rfl, k9⟩
                  rw [hmj]
                  have e9 : (!decide (str S = str S)) = false := by simp
                  refine ⟨_, rfl, ?_⟩; (first | refine Then.go hmix ?_ | refine Sat.go hmix ?_ | refine ResK.go ?_ | skip); conv => whnf
                  refine KGO ?_
                  exact ⟨j + 1, ⟨rfl, rfl, rfl, rfl, rfl, v_int (by simp), trivial⟩, ⟨J8.trans0 k9, by omega⟩, by dsimp only; omega⟩
            · refine KGO ?_
              exact ⟨rfl, Kr⟩
        · have g6 : ¬ (up = id ∨ O.length < T.length ∧ T.take (O.length + 1) = O ++ [47]) := fun h => h.elim p4 fun h => p5 h.1
          clear d6
          have hm := ms3 g5 g6
          clear ms1 ms2 ms3 g5 g6
          by_cases p7 : (moveL l id up).2 = 0
          rotate_left
          · rcases hm p7 with h | h
            · clear hm p7
              rw [h]
              skip
              refine KGO ?_
              exact ⟨rfl, K6⟩
            · clear hm p7
              rw [h]
              skip
              refine KGO ?_
              exact ⟨rfl, K6⟩
          clear hm
          obtain ⟨_, x, hx, rfl, hok⟩ := (move_iff _ _).1 p7
          have hres := move_res (l := l) (id := x.id) (up := up)
          rw [if_pos p7] at hres
          rw [p7]
          rw [hres] at r6 ⊢
          clear p7 hres
          have hml : (setUp l x.id up).length = l.length := by unfold setUp; rw [List.length_map]
          skip
          refine KGO ?_
          have hR6 : RightP (setUp l x.id up) := right_move hR hx hok.par hok.loop hok.deep hok.free
          have hs6 := small_right hR6
          have hN := full_short hR6 x.id
          have hl64 := hR.len
          have hmv : ∀ j (hj : j < l.length), fullL (setUp l x.id up) l[j].id = movedS O (fullL (setUp l x.id up) x.id) (fullL l l[j].id) := fun j hj => by
            rw [← hOe]; exact moved_full hR hx hok (List.getElem_mem hj)
          refine CallS.of (Tryd.call17 _ _) (bx_Full (w := w6) (setUp l x.id up) x.id (by omega) hs6 r6 (hE.keep K6)) ?_
          rintro e w7 ⟨rfl, k7⟩
          have K7 := K6.trans0 k7
          generalize hNe : fullL (setUp l x.id up) x.id = N at *
          generalize setUp l x.id up = m at *
          have hsN := str_size N
          refine ⟨_, rfl, ?_⟩; (first | refine Then.go hmix ?_ | refine Sat.go hmix ?_ | refine ResK.go ?_ | skip); conv => whnf
          refine KGO ?_
          refine Loop.intro (ι := Nat) (fun j => [(0, .slice a l.length cap), (7, .bool true), (9, .string (str O)), (11, .slice a6 m.length c6), (13, .string (str N)), (14, .int .i64 (j : Nat))])
            (fun j wr => Keeps w6 wr none_ ∧ j ≤ l.length) (fun j => l.length - j) 0 ⟨rfl, rfl, rfl, rfl, rfl, rfl, trivial⟩ ⟨k7, Nat.zero_le _⟩ ?_
          rintro j gg wr ⟨jr, hj⟩
          have Kr := K6.trans0 jr
          (first | refine Then.go hmix ?_ | refine Sat.go hmix ?_ | refine ResK.go ?_ | skip); conv => whnf
          by_cases hjt : j < l.length
          · obtain ⟨gb, o, rfl, hgb, hat⟩ := hr (by omega)
            have hmj := hmv j hjt
            have hS := full_short hR l[j].id
            have hM := full_short hR6 l[j].id
            refine KGO ?_
            refine CallS.of (Tryd.call17 _ _) (bx_Full (w := wr) l l[j].id (by omega) hs (hv0.keep Kr) (hE.keep Kr)) ?_
            rintro e w8 ⟨rfl, k8⟩
            have K8 := Kr.trans0 k8
            have J8 := jr.trans0 k8
            generalize fullL l l[j].id = S at *
            have hsS := str_size S
            have e1 := head_eq S O (O.length + 1)
            have c9 : ((str O).size : Int) + 1 = ((O.length + 1 : Nat) : Int) := by omega
            refine ⟨_, rfl, ?_⟩; (first | refine Then.go hmix ?_ | refine Sat.go hmix ?_ | refine ResK.go ?_ | skip); conv => whnf
            by_cases s1 : O.length < S.length
            · by_cases s2 : S.take (O.length + 1) = O ++ [47]
              · rw [decide_eq_true s2] at e1
                rw [movedS, if_pos (.inl ⟨s1, s2⟩)] at hmj
                refine KGO ?_
                rw [c9]
                refine KGO ?_
                refine RunV.cat (by rw [hsz1]; show _ + 1 ≤ _; omega) ?_
                refine KGO ?_
                rw [hsz1, tail_eq]
                refine RunV.cat (by rw [str_size, str_size, List.length_drop]; omega) ?_
                rw [show str N ++ str (S.drop O.length) = str (N ++ S.drop O.length) from str_append _ _]
                generalize N ++ S.drop O.length = Z at hmj ⊢
                refine KGO ?_
                refine CallS.of (Tryd.call17 _ _) (bx_Full (w := w8) m l[j].id (by omega) hs6 (r6.keep J8) (hE.keep K8)) ?_
                rintro e w9 ⟨rfl, k9⟩
                rw [hmj]
                have e9 : (!decide (str Z = str Z)) = false := by simp
                refine ⟨_, rfl, ?_⟩; (first | refine Then.go hmix ?_ | refine Sat.go hmix ?_ | refine ResK.go ?_ | skip); conv => whnf
                refine KGO ?_
                exact ⟨j + 1, ⟨rfl, rfl, rfl, rfl, rfl, v_int (by simp), trivial⟩, ⟨J8.trans0 k9, by omega⟩, by dsimp only; omega⟩
              · rw [decide_eq_false s2] at e1
                have s3 : ¬ S = O := fun e => by rw [e] at s1; omega
                have e3 : decide (str S = str O) = false := decide_eq_false fun e => s3 ((str_eq _ _).1 e)
                rw [movedS, if_neg (fun h => h.elim (fun h => s2 h.2) s3)] at hmj
                refine KGO ?_
                rw [c9]
                refine KGO ?_
                refine RunV.cat (by rw [hsz1]; show _ + 1 ≤ _; omega) ?_
                refine KGO ?_
                refine CallS.of (Tryd.call17 _ _) (bx_Full (w := w8) m l[j].id (by omega) hs6 (r6.keep J8) (hE.keep K8)) ?_
                rintro e w9 ⟨rfl, k9⟩
                rw [hmj]
                have e9 : (!decide (str S = str S)) = false := by simp
                refine ⟨_, rfl, ?_⟩; (first | refine Then.go hmix ?_ | refine Sat.go hmix ?_ | refine ResK.go ?_ | skip); conv => whnf
                refine KGO ?_
                exact ⟨j + 1, ⟨rfl, rfl, rfl, rfl, rfl, v_int (by simp), trivial⟩, ⟨J8.trans0 k9, by omega⟩, by dsimp only; omega⟩
            · by_cases s3 : S = O
              · have e3 : decide (str S = str O) = true := decide_eq_true (by rw [s3])
                have s4 : S.length = O.length := by rw [s3]
                rw [movedS, if_pos (.inr s3)] at hmj
                refine KGO ?_
                rw [hsz1, tail_eq]
                refine RunV.cat (by rw [str_size, str_size, List.length_drop]; omega) ?_
                rw [show str N ++ str (S.drop O.length) = str (N ++ S.drop O.length) from str_append _ _]
                generalize N ++ S.drop O.length = Z at hmj ⊢
                refine KGO ?_
                refine CallS.of (Tryd.call17 _ _) (bx_Full (w := w8) m l[j].id (by omega) hs6 (r6.keep J8) (hE.keep K8)) ?_
                rintro e w9 ⟨rfl, k9⟩
                rw [hmj]
                have e9 : (!decide (str Z = str Z)) = false := by simp
                refine ⟨_, rfl, ?_⟩; (first | refine Then.go hmix ?_ | refine Sat.go hmix ?_ | refine ResK.go ?_ | skip); conv => whnf
                refine KGO ?_
                exact ⟨j + 1, ⟨rfl, rfl, rfl, rfl, rfl, v_int (by simp), trivial⟩, ⟨J8.trans0 k9, by omega⟩, by dsimp only; omega⟩
              · have e3 : decide (str S = str O) = false := decide_eq_false fun e => s3 ((str_eq _ _).1 e)
                rw [movedS, if_neg (fun h => h.elim (fun h => s1 h.1) s3)] at hmj
                refine KGO ?_
                refine CallS.of (Tryd.call17 _ _) (bx_Full (w := w8) m l[j].id (by omega) hs6 (r6.keep J8) (hE.keep K8)) ?_
                rintro e w9 ⟨rfl, k9⟩
                rw [hmj]
                have e9 : (!decide (str S = str S)) = false := by simp
                refine ⟨_, rfl, ?_⟩; (first | refine Then.go hmix ?_ | refine Sat.go hmix ?_ | refine ResK.go ?_ | skip); conv => whnf
                refine KGO ?_
                exact ⟨j + 1, ⟨rfl, rfl, rfl, rfl, rfl, v_int (by simp), trivial⟩, ⟨J8.trans0 k9, by omega⟩, by dsimp only; omega⟩
          · refine KGO ?_
            exact ⟨rfl, Kr⟩
end
end Go.Proofs.YtdghfagipheabaaDoor
