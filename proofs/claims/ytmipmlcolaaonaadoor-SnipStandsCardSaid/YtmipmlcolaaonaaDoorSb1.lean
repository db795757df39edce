/- Helper text of this claim: Sb1: lemmas and contracts that the proved statement rests on; no conditions of its own. -/
import Derived.Test.YtmipmlcolaaonaaDoorGsr
import Derived.Test.YtmipmlcolaaonaaDoorGsn
import Derived.Test.YtmipmlcolaaonaaDoorWcz
-- alias Tryd
namespace Go.Proofs.YtmipmlcolaaonaaDoor
open Go.RowKit Go.Pw Go.Vc Go.Cs Go.Lib
set_option linter.unusedVariables false
set_option maxRecDepth 100000
section
variable {w : World}
set_option maxHeartbeats 4000000 in
theorem best39_walk {v : Value} (s : ByteArray) (ws : List (List UInt8)) (width fr tt : Int) (hw : -9223372036854775808 ≤ width ∧ width ≤ 9223372036854775807) (hfr : -9223372036854775808 ≤ fr ∧ fr ≤ 9223372036854775807) (htt : -9223372036854775808 ≤ tt ∧ tt ≤ 9223372036854775807)
    (hv : RdO w v ws.length (ws.map sv)) (hwl : ws.length ≤ 140737488351232) (hws : ∀ x ∈ ws, x.length ≤ 140737488355328) (hss : s.size ≤ 140737488355328) (hC : CutTab w) (hF : FoldTab w) :
    Calls Tryd.prog 15 #[.string s, v, .int .i64 width, .int .i64 fr, .int .i64 tt] w fun e w' => e = .returned (.bool true) ∧ Keeps w w' none_ := by
  have hv0 := hv
  obtain ⟨a, cap, rfl, _⟩ := hv
  refine calls_of_vc (args := [.string s, .slice a ws.length cap, .int .i64 width, .int .i64 fr, .int .i64 tt]) Tryd.func15 rfl (Nat.le_of_ble_eq_true rfl) ?_; refine Sat.go hmix ?_; conv => whnf
  refine CallS.of (Tryd.call45 _ _) (law39_small hC hF) ?_
  rintro e w1 ⟨rfl, k1⟩
  refine ⟨_, rfl, ?_⟩; (first | refine Then.go hmix ?_ | refine Sat.go hmix ?_ | refine ResK.go ?_ | skip); conv => whnf
  refine GO ?_
  refine CallS.of (Tryd.call46 _ _) (law39_few (w := w1) s ws (hv0.keep k1) (by omega) hws hss) ?_
  rintro e w2 ⟨rfl, k2⟩
  have K2 := k1.trans0 k2
  refine ⟨_, rfl, ?_⟩; (first | refine Then.go hmix ?_ | refine Sat.go hmix ?_ | refine ResK.go ?_ | skip); conv => whnf
  by_cases hf : allLen s.size ws ≤ 800 ∧ ws.length ≤ 20
  rotate_left
  · rw [decide_eq_false hf]
    refine LGO ?_
    exact ⟨rfl, K2⟩
  rw [decide_eq_true hf]
  have hx : ∀ x ∈ ws, x.length ≤ 800 := fun x hx => by have := allLen_mem s.size ws x hx; omega
  have hs8 : s.size ≤ 800 := by have := hf.1; unfold allLen at this; omega
  have hx1 : ∀ x ∈ ws, x.length ≤ 10000 := fun x h => by have := hx x h; omega
  have hkl := sought_len ws 800 hx
  have hm : ws.length * (2 * 800 + 1) ≤ 20 * (2 * 800 + 1) := Nat.mul_le_mul_right _ hf.2
  have hkl2 : (soughtL ws).length ≤ 100000 := by omega
  have hw20 : ws.length ≤ 1000 := by omega
  clear hkl hm hws hss hwl
  refine LGO ?_
  have hLs := L_len s
  have hord := words_order (L s)
  have hwl := wordsL_len (L s)
  have hsnl := snip_len (soughtL ws) (L s) width
  have hbest := fun i j => snip_best (soughtL ws) (L s) width i j
  rw [hLs] at hwl hord hsnl
  refine CallS.of (Tryd.call36 _ _) (cut_Words s (hC.keep K2) (hF.keep K2) (by omega)) ?_
  rintro e w3 ⟨vW, rfl, hW, k3⟩
  have K3 := K2.trans0 k3
  generalize hwds : wordsL (L s) = W at *
  have RW := own_rd hW
  have hcap : ∀ {a n c}, vW = .slice a n c → W.length ≤ c := fun e => by subst e; exact own_cap hW
  obtain ⟨aW, cW, rfl, hrW⟩ := own_rd hW
  have hcap := hcap rfl
  refine ⟨_, rfl, ?_⟩; (first | refine Then.go hmix ?_ | refine Sat.go hmix ?_ | refine ResK.go ?_ | skip); conv => whnf
  refine LGO ?_
  refine CallS.of (Tryd.call48 _ _) (sn_Make (w := w3) s ws width hw (hv0.keep K3) (hC.keep K3) (hF.keep K3) hw20 hx1 (by omega)) ?_
  rintro e w4 ⟨m1, rfl, hM1, k4⟩
  have K4 := K3.trans0 k4
  obtain ⟨a1, c1, rfl⟩ := own_shape hM1
  generalize (snipL (soughtL ws) (L s) width).2 = ml at *
  generalize hT : (snipL (soughtL ws) (L s) width).1 = T at *
  refine ⟨_, rfl, ?_⟩; (first | refine Then.go hmix ?_ | refine Sat.go hmix ?_ | refine ResK.go ?_ | skip); conv => whnf
  refine Store.fresh (vs := [.string (str T), .slice a1 ml.length c1]) (by rfl) rfl (by simp [Flat]) ?_
  have v13 := VarC.new w4 50 [.string (str T), .slice a1 ml.length c1]
  have k5 : Keeps w4 (w4.alloc (.cells [Value.string (str T), .slice a1 ml.length c1].toArray 50)) none_ := (Keeps.refl _ _).alloc _
  have K5 := K4.trans0 k5
  have K35 := k4.trans0 k5
  generalize w4.alloc (.cells [Value.string (str T), .slice a1 ml.length c1].toArray 50) = w5 at *
  generalize w4.heap.size = b13 at *
  by_cases q1 : fr < 0
  · refine LGO ?_
    exact ⟨rfl, K5.drew⟩
  by_cases q2 : tt ≤ fr
  · refine LGO ?_
    exact ⟨rfl, K5.drew⟩
  obtain ⟨i, rfl⟩ : ∃ i : Nat, fr = i := ⟨fr.toNat, by omega⟩
  obtain ⟨j, rfl⟩ : ∃ j : Nat, tt = j := ⟨tt.toNat, by omega⟩
  by_cases q3 : W.length < j
  · refine LGO ?_
    exact ⟨rfl, K5.drew⟩
  have hij : i < j := by omega
  obtain ⟨gW, rfl, hgW, hatW⟩ := hrW (by omega)
  have hat5 := at_keep hatW K35
  have hiW : i < W.length := by omega
  have hjW : j - 1 < W.length := by omega
  have ci := at_word hat5 hiW
  have cj := at_word hat5 hjW
  have hff : fromOf W i = W[i].2.1 := by unfold fromOf; rw [List.getD_eq_getElem?_getD, List.getElem?_eq_getElem hiW]; rfl
  have hte : toOf W (j - 1) = W[j - 1].2.2 := by unfold toOf; rw [List.getD_eq_getElem?_getD, List.getElem?_eq_getElem hjW]; rfl
  have hoi := hord.each i hiW
  have hoj := hord.each (j - 1) hjW
  have hji : ((j : Nat) : Int) - 1 = ((j - 1 : Nat) : Int) := by omega
  have d1 : w5.drew.cell? ⟨gW, 0 + i * 3 + 1, none⟩ = some (.int .i64 (fromOf W i : Nat)) := by rw [hff]; exact ci 1 _ rfl
  have d2 : w5.drew.cell? ⟨gW, 0 + (((j : Nat) : Int) - 1).toNat * 3 + 2, none⟩ = some (.int .i64 (toOf W (j - 1) : Nat)) := by rw [hji, Int.toNat_natCast, hte]; exact cj 2 _ rfl
  by_cases q4 : width < ((toOf W (j - 1) : Nat) : Int) - ((fromOf W i : Nat) : Int)
  · refine LGO ?_
    exact ⟨rfl, K5.drew⟩
  obtain ⟨hb1, hb2⟩ := hbest i j hij (by omega) (by omega)
  refine LGO ?_
  refine CallS.of (Tryd.call50 _ _) (ref_Sought (w := w5.drew) ws (hv0.keep K5.drew) hw20 hx1) ?_
  rintro e w6 ⟨vK, rfl, hKs, k6⟩
  have K6 := K5.drew.trans0 k6
  generalize soughtL ws = ks at *
  have RK := (own_rd hKs).toO
  obtain ⟨aK, cK, rfl⟩ := own_shape hKs
  have hat6 := at_keep hat5 ((Keeps.refl w5 none_).drew.trans0 k6)
  have v13 := (v13.keep (Keeps.refl w5 none_).drew id).keep k6 id
  refine ⟨_, rfl, ?_⟩; (first | refine Then.go hmix ?_ | refine Sat.go hmix ?_ | refine ResK.go ?_ | skip); conv => whnf
  refine LGO ?_
  rw [if_neg (by omega : ¬ i = cW)]
  have hcl := cutW_len W i j (by omega)
  have RC : RdO w6 (.slice (some ⟨gW, 0 + i * 3, none⟩) (j - i) (cW - i)) (cutW W i j).length ((cutW W i j).flatMap wordCells) :=
    ⟨_, _, by rw [hcl], fun _ => ⟨gW, 0 + i * 3, rfl, Nat.lt_of_lt_of_le hgW (by have := K35.size; have := k6.size; have := (Keeps.refl w5 none_).drew.size; omega), at_cut hat6 i j⟩⟩
  refine CallS.of (Tryd.call51 _ _) (ref_Shows (w := w6) (cutW W i j) ks RC RK (by omega) (by omega)) ?_
  rintro e w7 ⟨rfl, k7⟩
  have K7 := K6.trans0 k7
  have v13 := v13.keep k7 id
  have RK := RK.keep k7
  have e0 : w7.cell? ⟨b13, 0, none⟩ = some (.string (str T)) := v13.at 0 _ rfl
  refine ⟨_, rfl, ?_⟩; (first | refine Then.go hmix ?_ | refine Sat.go hmix ?_ | refine ResK.go ?_ | skip); conv => whnf
  refine LGO ?_
  refine CallS.of (Tryd.call36 _ _) (cut_Words (str T) (hC.keep K7) (hF.keep K7) (by rw [str_size]; omega)) ?_
  rintro e w8 ⟨vX, rfl, hX, k8⟩
  rw [L_str] at hX
  have K8 := K7.trans0 k8
  have RK := RK.keep k8
  have hXl := wordsL_len T
  generalize wordsL T = X at *
  have RX := (own_rd hX).toO
  obtain ⟨aX, cX, rfl⟩ := own_shape hX
  refine ⟨_, rfl, ?_⟩; (first | refine Then.go hmix ?_ | refine Sat.go hmix ?_ | refine ResK.go ?_ | skip); conv => whnf
  refine LGO ?_
  refine CallS.of (Tryd.call51 _ _) (ref_Shows (w := w8) X ks RX RK (by omega) (by omega)) ?_
  rintro e w9 ⟨rfl, k9⟩
  have K9 := K8.trans0 k9
  have e1 : w9.cell? ⟨b13, 0, none⟩ = some (.string (str T)) := ((v13.keep k8 id).keep k9 id).at 0 _ rfl
  have hTn : decide (str T = (⟨#[]⟩ : ByteArray)) = false := decide_eq_false fun h => hb2 (by have := congrArg L h; rwa [L_str] at this)
  have hTn2 : (!decide (str T = (⟨#[]⟩ : ByteArray))) = true := by rw [hTn]; rfl
  refine ⟨_, rfl, ?_⟩; (first | refine Then.go hmix ?_ | refine Sat.go hmix ?_ | refine ResK.go ?_ | skip); conv => whnf
  refine LGO ?_
  exact ⟨by rw [hTn]; rfl, K9⟩
end
end Go.Proofs.YtmipmlcolaaonaaDoor
