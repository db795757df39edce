/- Helper text of this claim: Bq3, Bq4: lemmas and contracts that the proved statement rests on; no conditions of its own. -/
import Derived.Test.YtdghfagipheabaaDoorGBx11
import Derived.Test.YtdghfagipheabaaDoorGBl3
-- alias Tryd
namespace Go.Proofs.YtdghfagipheabaaDoor
open Go.RowKit Go.Pw Go.Vc Go.Cs Go.Lib
set_option linter.unusedVariables false
set_option maxRecDepth 100000
section
variable {w w' : World}
theorem join_cons (x : List UInt8) (r : List (List UInt8)) (h : r ≠ []) : joinS (x :: r) = x ++ 47 :: joinS r := by
  cases r with
  | nil => exact absurd rfl h
  | cons y r => rfl
set_option maxHeartbeats 2000000 in
theorem rq_Full {v : Value} (l : List Bx) (id : Int) (hv : RowB w v l) (hl : l.length ≤ 1000) (hs : SmallB l) :
    Calls Tryd.prog 18 #[v, .int .i64 id] w fun e w' => e = .returned (.string (str (fullL l id))) ∧ Keeps w w' none_ := by
  have hv0 := hv
  obtain ⟨a, cap, rfl, hr⟩ := hv
  refine calls_of_vc (args := [.slice a l.length cap, .int .i64 id]) Tryd.func18 rfl (Nat.le_of_ble_eq_true rfl) ?_; refine Sat.go hmix ?_; conv => whnf
  refine CallS.of (Tryd.call38 _ _) (rq_find (w := w) l id hv0 (by omega)) ?_
  rintro e w1 ⟨rfl, k1⟩
  refine ⟨_, rfl, ?_⟩; (first | refine Then.go hmix ?_ | refine Sat.go hmix ?_ | refine ResK.go ?_ | skip); conv => whnf
  cases hb : boxOf l id with
  | none =>
    have hneg := find_neg.2 hb
    refine KGO ?_
    refine ⟨?_, k1⟩
    unfold fullL
    split
    · rw [full_none ((rightL_iff l).1 (by assumption)) (boxOf_none.1 hb)]; rfl
    · rfl
  | some b =>
    obtain ⟨hk, he, hf⟩ := find_nat hb
    rw [hf]
    refine KGO ?_
    refine CallS.of (Tryd.call14 _ _) (rq_Right (w := w1) l (hv0.keep k1) hl hs) ?_
    rintro e w2 ⟨rfl, k2⟩
    have K2 := k1.trans0 k2
    refine ⟨_, rfl, ?_⟩; (first | refine Then.go hmix ?_ | refine Sat.go hmix ?_ | refine ResK.go ?_ | skip); conv => whnf
    by_cases h1 : rightL l = true
    rotate_left
    · rw [show rightL l = false by simpa using h1]
      refine KGO ?_
      refine ⟨?_, K2⟩
      rw [fullL, if_neg h1]; rfl
    rw [h1]
    have hR := (rightL_iff l).1 h1
    obtain ⟨hbm, hbi⟩ := boxOf_mem hb
    have hfs := full_short hR id
    have hfe : fullL l id = joinS (names l id) := full_of hR id
    have hnb := names_box hR hbm
    rw [hbi] at hnb
    obtain ⟨d, hd1, hd2, hd3, hd4⟩ := deep_box hR hbm
    obtain ⟨g, o, rfl, hg, hat⟩ := hr (by omega)
    refine KGO ?_
    refine Loop.intro (ι := Nat × Bx × List (List UInt8) × Nat) (fun p => [(0, .slice (some ⟨g, o, none⟩) l.length cap), (5, .int .i64 (p.1 : Nat)), (6, .string (str (joinS (p.2.1.name :: p.2.2.1))))])
      (fun p wr => Keeps w wr none_ ∧ l[p.1]? = some p.2.1 ∧ names l id = names l p.2.1.up ++ (p.2.1.name :: p.2.2.1) ∧ Dep l p.2.2.2 p.2.1.up) (fun p => p.2.2.2) (findN l id, b, [], d) ⟨rfl, rfl, by rw [he]; rfl, trivial⟩
      ⟨K2, by rw [List.getElem?_eq_getElem hk, he], hnb, ((dep_iff _ _ _ _).1 hd4).1⟩ ?_
    rintro ⟨k, c, r, m⟩ gg wr ⟨hK, hkc, hn, hm⟩
    dsimp only at hkc hn hm ⊢
    obtain ⟨hk2, hke⟩ := List.getElem?_eq_some_iff.1 hkc
    (first | refine Then.go hmix ?_ | refine Sat.go hmix ?_ | refine ResK.go ?_ | skip); conv => whnf
    refine KGO ?_
    rw [hke]
    by_cases h0 : c.up = 0
    · refine KGO ?_
      refine ⟨?_, hK⟩
      rw [hfe, hn, h0, names_root hR]; rfl
    · have hmem := List.getElem_mem hk2
      rw [hke] at hmem
      obtain ⟨c2, hc2, hci⟩ : ∃ c2 ∈ l, c2.id = c.up := (up_cases hR hmem).resolve_left h0
      have hb2 : boxOf l c.up = some c2 := by rw [← hci]; exact boxOf_of hR.asc hc2
      obtain ⟨hk3, he3, hf3⟩ := find_nat hb2
      refine KGO ?_
      rw [hke]
      refine CallS.of (Tryd.call38 _ _) (rq_find (w := wr) l c.up (hv0.keep hK) (by omega)) ?_
      rintro e w3 ⟨rfl, k3⟩
      rw [hf3]
      have K3 := hK.trans0 k3
      have hbn := names_box hR hc2
      rw [hci] at hbn
      have hln : (joinS (c2.name :: c.name :: r)).length ≤ 6464 := by
        rw [hfe, hn, hbn, List.append_assoc] at hfs
        exact Nat.le_trans (join_pre _ _ (by simp)) hfs
      have hjc : joinS (c2.name :: c.name :: r) = c2.name ++ 47 :: joinS (c.name :: r) := rfl
      rw [hjc, List.length_append, List.length_cons] at hln
      refine ⟨_, rfl, ?_⟩; (first | refine Then.go hmix ?_ | refine Sat.go hmix ?_ | refine ResK.go ?_ | skip); conv => whnf
      refine KGO ?_
      rw [he3]
      refine RunV.cat (by rw [str_size]; show _ + 1 ≤ _; omega) ?_
      refine KGO ?_
      rw [show str c2.name ++ (⟨#[47]⟩ : ByteArray) = str (c2.name ++ [47]) from str_append _ [47]]
      refine RunV.cat (by rw [str_size, str_size, List.length_append, List.length_singleton]; omega) ?_
      refine KGO ?_
      obtain ⟨m, rfl⟩ : ∃ m', m = m' + 1 := by
        cases m with
        | zero => exact absurd hm h0
        | succ m => exact ⟨m, rfl⟩
      obtain ⟨_, u, hu, hm2⟩ := hm
      have hu2 : u = c2.up := by rw [boxOf_up, hb2] at hu; exact (Option.some.inj hu).symm
      refine ⟨(findN l c.up, c2, c.name :: r, m), ⟨rfl, rfl, v_str ?_, trivial⟩, ⟨K3, by dsimp only; rw [List.getElem?_eq_getElem hk3, he3], by dsimp only; rw [hn, hbn, List.append_assoc]; rfl, by dsimp only; rw [← hu2]; exact hm2⟩, by dsimp only; omega⟩
      dsimp only
      rw [hjc, show c2.name ++ 47 :: joinS (c.name :: r) = (c2.name ++ [47]) ++ joinS (c.name :: r) by simp, str_append]
theorem path_step (l : List Bx) (p : List UInt8) (r : List Bx) (b : Bx) : ((b :: r).find? fun b => decide (fullL l b.id ≠ [] ∧ foldL (fullL l b.id) = foldL p)) = if fullL l b.id ≠ [] ∧ foldL (fullL l b.id) = foldL p then some b else r.find? fun b => decide (fullL l b.id ≠ [] ∧ foldL (fullL l b.id) = foldL p) := by
  by_cases h : fullL l b.id ≠ [] ∧ foldL (fullL l b.id) = foldL p
  · rw [if_pos h, List.find?_cons_of_pos (by simpa using h)]
  · rw [if_neg h, List.find?_cons_of_neg (by simpa using h)]
theorem full_lim {l : List Bx} (id : Int) : (fullL l id).length ≤ 6464 := by
  by_cases h : rightL l = true
  · exact full_short ((rightL_iff l).1 h) id
  · rw [fullL, if_neg h]; simp
set_option maxHeartbeats 2000000 in
theorem rq_Path {v : Value} (l : List Bx) (p : List UInt8) (hv : RowB w v l) (hl : l.length ≤ 1000) (hs : SmallB l) (hp : p.length ≤ 1000000) :
    Calls Tryd.prog 10 #[v, .string (str p)] w fun e w' => e = .returned (optV (pathL l p)) ∧ Keeps w w' none_ := by
  rw [← path_ref]
  have hv0 := hv
  obtain ⟨a, cap, rfl, hr⟩ := hv
  refine calls_of_vc (args := [.slice a l.length cap, .string (str p)]) Tryd.func10 rfl (Nat.le_of_ble_eq_true rfl) ?_; refine Sat.go hmix ?_; conv => whnf
  refine Loop.intro (ι := Nat) (fun i => [(0, .slice a l.length cap), (1, .string (str p)), (6, .int .i64 (i : Nat))])
    (fun i wr => Keeps w wr none_ ∧ i ≤ l.length ∧ pathR l p = ((l.drop i).find? fun b => decide (fullL l b.id ≠ [] ∧ foldL (fullL l b.id) = foldL p)).map (·.id)) (fun i => l.length - i) 0 ⟨rfl, rfl, rfl, trivial⟩ ⟨Keeps.refl _ _, Nat.zero_le _, rfl⟩ ?_
  rintro i gg wr ⟨hK, hi, ht⟩
  (first | refine Then.go hmix ?_ | refine Sat.go hmix ?_ | refine ResK.go ?_ | skip); conv => whnf
  by_cases hlt : i < l.length
  · obtain ⟨g, o, rfl, hg, hat⟩ := hr (by omega)
    rw [List.drop_eq_getElem_cons hlt, path_step] at ht
    refine KGO ?_
    refine CallS.of (Tryd.call18 _ _) (rq_Full (w := wr) l l[i].id (hv0.keep hK) hl hs) ?_
    rintro e w1 ⟨rfl, k1⟩
    have K1 := hK.trans0 k1
    have hlim := full_lim (l := l) l[i].id
    generalize fullL l l[i].id = f at *
    have d1 := str_nilq f
    refine ⟨_, rfl, ?_⟩; (first | refine Then.go hmix ?_ | refine Sat.go hmix ?_ | refine ResK.go ?_ | skip); conv => whnf
    by_cases h0 : f = []
    · rw [decide_eq_true h0] at d1
      rw [if_neg fun h => h.1 h0] at ht
      refine KGO ?_
      exact ⟨i + 1, ⟨rfl, rfl, v_int (by simp), trivial⟩, ⟨K1, by omega, ht⟩, by dsimp only; omega⟩
    rw [decide_eq_false h0] at d1
    refine KGO ?_
    refine CallS.of (Tryd.call28 _ _) (rq_Equal (w := w1) f p (by omega) (by omega)) ?_
    rintro e w2 ⟨rfl, k2⟩
    have K2 := K1.trans0 k2
    refine ⟨_, rfl, ?_⟩; (first | refine Then.go hmix ?_ | refine Sat.go hmix ?_ | refine ResK.go ?_ | skip); conv => whnf
    by_cases h1 : foldL f = foldL p
    · rw [decide_eq_true h1]
      rw [if_pos ⟨h0, h1⟩] at ht
      refine KGO ?_
      rw [ht]
      exact ⟨rfl, K2⟩
    · rw [decide_eq_false h1]
      rw [if_neg fun h => h1 h.2] at ht
      refine KGO ?_
      exact ⟨i + 1, ⟨rfl, rfl, v_int (by simp), trivial⟩, ⟨K2, by omega, ht⟩, by dsimp only; omega⟩
  · refine KGO ?_
    rw [ht, List.drop_eq_nil_of_le (by omega)]
    exact ⟨rfl, hK⟩
end
end Go.Proofs.YtdghfagipheabaaDoor

-- alias Tryd
namespace Go.Proofs.YtdghfagipheabaaDoor
open Go.RowKit Go.Pw Go.Vc Go.Cs Go.Lib
set_option linter.unusedVariables false
set_option maxRecDepth 100000
section
variable {w w' : World}
set_option maxHeartbeats 4000000 in
theorem lw_Tells41 {v : Value} (l : List Bx) (s : ByteArray) (id : Int) (hv : RowB w v l) (hlen : l.length ≤ 9223372036854775807) (hE : BEnv w) :
    Calls Tryd.prog 3 #[v, .string s, .int .i64 id] w fun e w' => e = .returned (.bool true) ∧ Keeps w w' none_ := by
  have hv0 := hv
  obtain ⟨a, cap, rfl, hr⟩ := hv
  refine calls_of_vc (args := [.slice a l.length cap, .string s, .int .i64 id]) Tryd.func3 rfl (Nat.le_of_ble_eq_true rfl) ?_; refine Sat.go hmix ?_; conv => whnf
  refine CallS.of (Tryd.call7 _ _) (lw_small (w := w) hE) ?_
  rintro e w1 ⟨rfl, K1⟩
  refine ⟨_, rfl, ?_⟩; (first | refine Then.go hmix ?_ | refine Sat.go hmix ?_ | refine ResK.go ?_ | skip); conv => whnf
  refine KGO ?_
  refine CallS.of (Tryd.call8 _ _) (lw_few (w := w1) l (hv0.keep K1) hlen) ?_
  rintro e w2 ⟨⟨q, rfl, hq⟩, j2⟩
  have K2 := K1.trans0 j2
  refine ⟨_, rfl, ?_⟩; (first | refine Then.go hmix ?_ | refine Sat.go hmix ?_ | refine ResK.go ?_ | skip); conv => whnf
  cases q with
  | false =>
    refine KGO ?_
    exact ⟨rfl, K2⟩
  | true =>
    obtain ⟨hs, h70⟩ := small_few (hq rfl)
    by_cases h1000 : 1000 < s.size
    · refine KGO ?_
      exact ⟨rfl, K2⟩
    have hsl : (L s).length = s.size := L_len s
    rw [← str_L s]
    generalize L s = p at *
    have hps := str_size p
    refine KGO ?_
    refine CallS.of (Tryd.call9 _ _) (bx_Path (w := w2) l p (hv0.keep K2) (by omega) hs (by omega) (hE.keep K2)) ?_
    rintro e w3 ⟨rfl, j3⟩
    have K3 := K2.trans0 j3
    obtain ⟨pi, pq, hpq⟩ := optV_shape (pathL l p)
    rw [hpq]
    refine ⟨_, rfl, ?_⟩; (first | refine Then.go hmix ?_ | refine Sat.go hmix ?_ | refine ResK.go ?_ | skip); conv => whnf
    refine KGO ?_
    refine CallS.of (Tryd.call10 _ _) (rq_Path (w := w3) l p (hv0.keep K3) (by omega) hs (by omega)) ?_
    rintro e w4 ⟨rfl, j4⟩
    have K4 := K3.trans0 j4
    rw [hpq]
    refine ⟨_, rfl, ?_⟩; (first | refine Then.go hmix ?_ | refine Sat.go hmix ?_ | refine ResK.go ?_ | skip); conv => whnf
    refine KGO ?_
    refine CallS.of (Tryd.call11 _ _) (bx_Role (w := w4) l p (hv0.keep K4) (by omega)) ?_
    rintro e w5 ⟨rfl, j5⟩
    have K5 := K4.trans0 j5
    obtain ⟨ri, rq, hrq⟩ := optV_shape (roleOf l p)
    rw [hrq]
    refine ⟨_, rfl, ?_⟩; (first | refine Then.go hmix ?_ | refine Sat.go hmix ?_ | refine ResK.go ?_ | skip); conv => whnf
    refine KGO ?_
    refine CallS.of (Tryd.call12 _ _) (rq_Role (w := w5) l p (hv0.keep K5) (by omega)) ?_
    rintro e w6 ⟨rfl, j6⟩
    have K6 := K5.trans0 j6
    rw [hrq]
    refine ⟨_, rfl, ?_⟩; (first | refine Then.go hmix ?_ | refine Sat.go hmix ?_ | refine ResK.go ?_ | skip); conv => whnf
    refine KGO ?_
    refine CallS.of (Tryd.call13 _ _) (bx_Right (w := w6) l (hv0.keep K6) (by omega) hs (hE.F.keep K6) (hE.T.keep K6) (hE.R.keep K6)) ?_
    rintro e w7 ⟨rfl, j7⟩
    have K7 := K6.trans0 j7
    refine ⟨_, rfl, ?_⟩; (first | refine Then.go hmix ?_ | refine Sat.go hmix ?_ | refine ResK.go ?_ | skip); conv => whnf
    refine KGO ?_
    refine CallS.of (Tryd.call14 _ _) (rq_Right (w := w7) l (hv0.keep K7) (by omega) hs) ?_
    rintro e w8 ⟨rfl, j8⟩
    have K8 := K7.trans0 j8
    refine ⟨_, rfl, ?_⟩; (first | refine Then.go hmix ?_ | refine Sat.go hmix ?_ | refine ResK.go ?_ | skip); conv => whnf
    refine KGO ?_
    refine CallS.of (Tryd.call15 _ _) (bx_Named (w := w8) (str p) (hE.T.keep K8) (by omega)) ?_
    rintro e w9 ⟨rfl, j9⟩
    have K9 := K8.trans0 j9
    refine ⟨_, rfl, ?_⟩; (first | refine Then.go hmix ?_ | refine Sat.go hmix ?_ | refine ResK.go ?_ | skip); conv => whnf
    refine KGO ?_
    refine CallS.of (Tryd.call16 _ _) (rq_Named (w := w9) (str p) (by omega)) ?_
    rintro e w10 ⟨rfl, j10⟩
    have K10 := K9.trans0 j10
    refine ⟨_, rfl, ?_⟩; (first | refine Then.go hmix ?_ | refine Sat.go hmix ?_ | refine ResK.go ?_ | skip); conv => whnf
    refine KGO ?_
    refine CallS.of (Tryd.call17 _ _) (bx_Full (w := w10) l id (by omega) hs (hv0.keep K10) (hE.keep K10)) ?_
    rintro e w11 ⟨rfl, j11⟩
    have K11 := K10.trans0 j11
    refine ⟨_, rfl, ?_⟩; (first | refine Then.go hmix ?_ | refine Sat.go hmix ?_ | refine ResK.go ?_ | skip); conv => whnf
    refine KGO ?_
    refine CallS.of (Tryd.call18 _ _) (rq_Full (w := w11) l id (hv0.keep K11) (by omega) hs) ?_
    rintro e w12 ⟨rfl, j12⟩
    have K12 := K11.trans0 j12
    refine ⟨_, rfl, ?_⟩; (first | refine Then.go hmix ?_ | refine Sat.go hmix ?_ | refine ResK.go ?_ | skip); conv => whnf
    refine KGO ?_
    exact ⟨ret_bool (by simp), K12⟩
end
end Go.Proofs.YtdghfagipheabaaDoor
