/- Helper text of this claim: Sb2: lemmas and contracts that the proved statement rests on; no conditions of its own. -/
import Derived.Test.YtmipmlcolaaonaaDoorSb1
import Derived.Test.YtmipmlcolaaonaaDoorGso
import Derived.Test.YtmipmlcolaaonaaDoorKit8
import Derived.Test.YtmipmlcolaaonaaDoorWcz
-- alias Tryd
namespace Go.Proofs.YtmipmlcolaaonaaDoor
open Go.RowKit Go.Pw Go.Vc Go.Cs Go.Lib
set_option linter.unusedVariables false
set_option maxRecDepth 100000
section
variable {w : World}
theorem upL_snoc (l : List UInt8) (i : Nat) (hi : i < l.length) : upL (l.take (i + 1)) = upL (l.take i) ++ [upB l[i]] := by
  unfold upL
  rw [List.take_succ_eq_append_getElem hi, List.map_append]; rfl
set_option maxHeartbeats 2000000 in
theorem law_upper (s : ByteArray) (hs : s.size ≤ 100000000) : Calls Tryd.prog 52 #[.string s] w fun e w' => e = .returned (.string (str (upL (L s)))) ∧ Keeps w w' none_ := by
  have hl := L_len s
  refine calls_of_vc (args := [.string s]) Tryd.func52 rfl (Nat.le_of_ble_eq_true rfl) ?_; refine Sat.go hmix ?_; conv => whnf
  refine Loop.intro (ι := Nat × Option Addr × Nat × List UInt8) (fun i => [(0, .string s), (3, .slice i.2.1 i.2.2.2.length i.2.2.1), (4, .int .i64 (i.1 : Nat))])
    (fun i wr => Keeps w wr none_ ∧ i.1 ≤ s.size ∧ Bytes wr w.heap.size (.slice i.2.1 i.2.2.2.length i.2.2.1) i.2.2.2 ∧ i.2.2.2 = upL ((L s).take i.1) ∧ i.2.2.2.length = i.1) (fun i => s.size - i.1) (0, none, 0, []) ⟨rfl, rfl, rfl, trivial⟩
    ⟨Keeps.refl _ _, Nat.zero_le _, World.ownsRow_nil _ _ _ _, rfl, rfl⟩ ?_
  rintro ⟨n, a, cap, d⟩ g wr ⟨hK, hn, hv, he, hd⟩
  dsimp only at hn hv he hd ⊢
  (first | refine Then.go hmix ?_ | refine Sat.go hmix ?_ | refine ResK.go ?_ | skip); conv => whnf
  by_cases hlt : n < s.size
  · have hst := upL_snoc (L s) n (by omega)
    have hb : byteAt s n = (L s)[n]'(by omega) := by show (L s).getD n 0 = _; rw [List.getD, List.getElem?_eq_getElem (by omega : n < (L s).length)]; rfl
    rw [← hb] at hst
    have hx0 := UInt8.toNat_lt (byteAt s n)
    clear hb
    refine LGO ?_
    generalize byteAt s n = x at *
    by_cases q1 : 97 ≤ x.toNat
    · by_cases q2 : x.toNat ≤ 122
      · have hu : upB x = x - 32 := by unfold upB; rw [if_pos ⟨q1, q2⟩]
        have hx3 : ((x.toNat : Nat) : Int) - 32 = (((x - 32 : UInt8).toNat : Nat) : Int) := by
          rw [UInt8.toNat_sub_of_le _ _ (by rw [UInt8.le_iff_toNat_le]; exact Nat.le_trans (by decide) q1)]
          have : (32 : UInt8).toNat = 32 := rfl
          omega
        refine LGO ?_
        rw [hx3]
        refine RunV.of (build_b1 _ _) ?_
        refine GO ?_
        refine app_byte hv hK.size (x - 32) (by omega) fun v' w' h3 hg3 => ?_
        obtain ⟨a3, c3, rfl⟩ := h3.shape
        have K3 := (hK.alloc (.cells #[.int .u8 ((x - 32).toNat : Int)] 5)).own (hv.keep ((Keeps.refl _ _).alloc _)) (Nat.le_refl _) hg3
        refine GO ?_
        exact ⟨(n + 1, a3, c3, d ++ [x - 32]), ⟨rfl, rfl, v_int (by simp), trivial⟩, ⟨K3, by dsimp only; omega, h3, by dsimp only; rw [hst, he, hu], by simp [hd]⟩, by dsimp only; omega⟩
      · have hu : upB x = x := by unfold upB; rw [if_neg (fun h => q2 h.2)]
        refine LGO ?_
        refine RunV.of (build_b1 _ _) ?_
        refine GO ?_
        refine app_byte hv hK.size x (by omega) fun v' w' h3 hg3 => ?_
        obtain ⟨a3, c3, rfl⟩ := h3.shape
        have K3 := (hK.alloc (.cells #[.int .u8 (x.toNat : Int)] 5)).own (hv.keep ((Keeps.refl _ _).alloc _)) (Nat.le_refl _) hg3
        refine GO ?_
        exact ⟨(n + 1, a3, c3, d ++ [x]), ⟨rfl, rfl, v_int (by simp), trivial⟩, ⟨K3, by dsimp only; omega, h3, by dsimp only; rw [hst, he, hu], by simp [hd]⟩, by dsimp only; omega⟩
    · have hu : upB x = x := by unfold upB; rw [if_neg (fun h => q1 h.1)]
      refine LGO ?_
      refine RunV.of (build_b1 _ _) ?_
      refine GO ?_
      refine app_byte hv hK.size x (by omega) fun v' w' h3 hg3 => ?_
      obtain ⟨a3, c3, rfl⟩ := h3.shape
      have K3 := (hK.alloc (.cells #[.int .u8 (x.toNat : Int)] 5)).own (hv.keep ((Keeps.refl _ _).alloc _)) (Nat.le_refl _) hg3
      refine GO ?_
      exact ⟨(n + 1, a3, c3, d ++ [x]), ⟨rfl, rfl, v_int (by simp), trivial⟩, ⟨K3, by dsimp only; omega, h3, by dsimp only; rw [hst, he, hu], by simp [hd]⟩, by dsimp only; omega⟩
  · refine LGO ?_
    have hnn : n = s.size := by omega
    subst hnn
    rw [List.take_of_length_le (by omega)] at he
    refine RunV.str (l := d) Tryd.underlying43 Tryd.underlying5 Tryd.underlying9 hv ?_
    (first | refine Then.go hmix ?_ | refine Sat.go hmix ?_ | refine ResK.go ?_ | skip); conv => whnf
    refine ⟨ret_str ?_, hK⟩
    rw [he]; rfl
set_option maxHeartbeats 8000000 in
theorem letters39_walk {v : Value} (s : ByteArray) (ws : List (List UInt8)) (width : Int) (hw : -9223372036854775808 ≤ width ∧ width ≤ 9223372036854775807)
    (hv : RdO w v ws.length (ws.map sv)) (hwl : ws.length ≤ 140737488351232) (hws : ∀ x ∈ ws, x.length ≤ 140737488355328) (hss : s.size ≤ 140737488355328) (hC : CutTab w) (hF : FoldTab w) :
    Calls Tryd.prog 16 #[.string s, v, .int .i64 width] w fun e w' => e = .returned (.bool true) ∧ Keeps w w' none_ := by
  have hv0 := hv
  obtain ⟨a, cap, rfl, hr⟩ := hv
  refine calls_of_vc (args := [.string s, .slice a ws.length cap, .int .i64 width]) Tryd.func16 rfl (Nat.le_of_ble_eq_true rfl) ?_; refine Sat.go hmix ?_; conv => whnf
  refine CallS.of (Tryd.call45 _ _) (law39_small hC hF) ?_
  rintro e w1 ⟨rfl, k1⟩
  refine ⟨_, rfl, ?_⟩; (first | refine Then.go hmix ?_ | refine Sat.go hmix ?_ | refine ResK.go ?_ | skip); conv => whnf
  refine GO ?_
  refine CallS.of (Tryd.call46 _ _) (law39_few (w := w1) s ws (hv0.keep k1) (by omega) hws hss) ?_
  rintro e w2 ⟨rfl, k2⟩
  have K2 := k1.trans0 k2
  refine ⟨_, rfl, ?_⟩; (first | refine Then.go hmix ?_ | refine Sat.go hmix ?_ | refine ResK.go ?_ | skip); conv => whnf
  by_cases hf : allLen s.size ws ≤ 800 ∧ ws.length ≤ 20
  rotate_left
  · rw [decide_eq_false hf]
    refine LGO ?_
    exact ⟨rfl, K2⟩
  rw [decide_eq_true hf]
  have hx : ∀ x ∈ ws, x.length ≤ 800 := fun x hx => by have := allLen_mem s.size ws x hx; omega
  have hs8 : s.size ≤ 800 := by have := hf.1; unfold allLen at this; omega
  have hx1 : ∀ x ∈ ws, x.length ≤ 10000 := fun x h => by have := hx x h; omega
  have hw20 : ws.length ≤ 1000 := by omega
  clear hws hss hwl
  have hLs := L_len s
  have hml : (snipL (soughtL ws) (L s) width).2.length ≤ 100000 := by
    have hwd := wordsL_len (L s)
    rw [L_len] at hwd
    have h1 : (snipL (soughtL ws) (L s) width).2.length ≤ (wordsL (L s)).length := by
      unfold snipL
      split
      · simp
      · refine Nat.le_trans (marksL_len _ _ _) ?_
        unfold winW
        rw [List.length_drop, List.length_take]; omega
    omega
  have hsnl := snip_len (soughtL ws) (L s) width
  have hall := snip_all (soughtL ws) (L s) width
  have hup := up_snip (soughtL ws) (L s) width
  have hkl := sought_len ws 800 hx
  have hm : ws.length * (2 * 800 + 1) ≤ 20 * (2 * 800 + 1) := Nat.mul_le_mul_right _ hf.2
  have hkl2 : (soughtL ws).length ≤ 100000 := by omega
  clear hkl hm
  rw [hLs] at hsnl hall
  refine LGO ?_
  refine Loop.intro (ι := Nat × Option Addr × Nat × List (List UInt8)) (fun i => [(0, .string s), (1, .slice a ws.length cap), (2, .int .i64 width), (7, .bool true), (8, .slice i.2.1 i.2.2.2.length i.2.2.1), (9, .int .i64 (i.1 : Nat))])
    (fun i wr => Keeps w2 wr none_ ∧ i.1 ≤ ws.length ∧ Txs wr w2.heap.size (.slice i.2.1 i.2.2.2.length i.2.2.1) i.2.2.2 ∧ i.2.2.2 = (ws.take i.1).map upL ∧ i.2.2.2.length = i.1) (fun i => ws.length - i.1) (0, none, 0, []) ⟨rfl, rfl, rfl, rfl, rfl, rfl, trivial⟩
    ⟨Keeps.refl _ _, Nat.zero_le _, World.ownsRow_nil _ _ _ _, rfl, rfl⟩ ?_
  rintro ⟨n, va, vc, d⟩ g wr ⟨hK, hn, hT, he, hd⟩
  dsimp only at hn hT he hd ⊢
  (first | refine Then.go hmix ?_ | refine Sat.go hmix ?_ | refine ResK.go ?_ | skip); conv => whnf
  by_cases hlt : n < ws.length
  · obtain ⟨gg, o, rfl, hgg, hat⟩ := hr (by omega)
    have c1 := at_textO (at_keep hat (K2.trans0 hK)) hlt
    have hx2 := hx ws[n] (List.getElem_mem hlt)
    have hst : (ws.take (n + 1)).map upL = (ws.take n).map upL ++ [upL ws[n]] := by
      rw [List.take_succ_eq_append_getElem hlt, List.map_append]; rfl
    generalize ws[n] = x at *
    refine LGO ?_
    refine CallS.of (Tryd.call52 _ _) (law_upper (w := wr) (str x) (by rw [str_size]; omega)) ?_
    rintro e w3 ⟨rfl, k3⟩
    rw [L_str]
    refine ⟨_, rfl, ?_⟩; (first | refine Then.go hmix ?_ | refine Sat.go hmix ?_ | refine ResK.go ?_ | skip); conv => whnf
    refine RunV.of (build_text _ _) ?_
    (first | refine Then.go hmix ?_ | refine Sat.go hmix ?_ | refine ResK.go ?_ | skip); conv => whnf
    have hT3 : Txs w3 w2.heap.size (.slice va d.length vc) d := own_keep0 hT k3
    refine app_text hT3 (Nat.le_trans hK.size k3.size) (upL x) (by omega) fun v' w4 h4 g4 => ?_
    obtain ⟨a4, c4, rfl⟩ : ∃ a c, v' = .slice a (d ++ [upL x]).length c := own_shape h4
    have K4 : Keeps w2 w4 none_ := ((hK.trans0 k3).alloc _).own (own_keep0 hT3 ((Keeps.refl _ _).alloc _)) (Nat.le_refl _) g4
    refine LGO ?_
    exact ⟨(n + 1, a4, c4, d ++ [upL x]), ⟨rfl, rfl, rfl, rfl, rfl, v_int (by simp), trivial⟩, ⟨K4, by dsimp only; omega, h4, by dsimp only; rw [hst, he], by simp [hd]⟩, by dsimp only; omega⟩
  have hn2 : n = ws.length := by omega
  subst hn2
  rw [List.take_length] at he
  subst he
  have Kr := K2.trans0 hK
  have RG := (own_rd hT).toO
  refine LGO ?_
  refine CallS.of (Tryd.call48 _ _) (sn_Make (w := wr) s ws width hw (hv0.keep Kr) (hC.keep Kr) (hF.keep Kr) hw20 hx1 (by omega)) ?_
  rintro e w4 ⟨m1, rfl, hM1, k4⟩
  have K4 := Kr.trans0 k4
  have RM := own_rd hM1
  obtain ⟨a1, c1, rfl⟩ := own_shape hM1
  have RG := RG.keep k4
  refine ⟨_, rfl, ?_⟩; (first | refine Then.go hmix ?_ | refine Sat.go hmix ?_ | refine ResK.go ?_ | skip); conv => whnf
  refine Store.fresh (vs := [.string (str (snipL (soughtL ws) (L s) width).1), .slice a1 (snipL (soughtL ws) (L s) width).2.length c1]) (by rfl) rfl (by simp [Flat]) ?_
  have v10 := VarC.new w4 50 [.string (str (snipL (soughtL ws) (L s) width).1), .slice a1 (snipL (soughtL ws) (L s) width).2.length c1]
  have k5 : Keeps w4 (w4.alloc (.cells [Value.string (str (snipL (soughtL ws) (L s) width).1), .slice a1 (snipL (soughtL ws) (L s) width).2.length c1].toArray 50)) none_ := (Keeps.refl _ _).alloc _
  have K5 := K4.trans0 k5
  have RM := RM.keep k5
  have RG := RG.keep k5
  generalize w4.alloc (.cells [Value.string (str (snipL (soughtL ws) (L s) width).1), .slice a1 (snipL (soughtL ws) (L s) width).2.length c1].toArray 50) = w5 at *
  generalize w4.heap.size = b10 at *
  refine LGO ?_
  refine CallS.of (Tryd.call52 _ _) (law_upper (w := w5) s (by omega)) ?_
  rintro e w6 ⟨rfl, k6⟩
  have K6 := K5.trans0 k6
  have RM := RM.keep k6
  have RG := RG.keep k6
  have v10 := v10.keep k6 id
  refine ⟨_, rfl, ?_⟩; (first | refine Then.go hmix ?_ | refine Sat.go hmix ?_ | refine ResK.go ?_ | skip); conv => whnf
  refine LGO ?_
  have hmu : ∀ x ∈ ws.map upL, x.length ≤ 10000 := fun x hx => by
    obtain ⟨y, hy, rfl⟩ := List.mem_map.1 hx
    rw [up_len]; exact hx1 y hy
  have hmk := sn_Make (w := w6) (str (upL (L s))) (ws.map upL) width hw RG (hC.keep K6) (hF.keep K6) (by rw [List.length_map]; exact hw20) hmu (by rw [str_size, up_len]; omega)
  rw [L_str, up_sought, hup] at hmk
  generalize (snipL (soughtL ws) (L s) width).2 = ml at *
  generalize (snipL (soughtL ws) (L s) width).1 = T at *
  refine CallS.of (Tryd.call48 _ _) hmk ?_
  rintro e w7 ⟨m2, rfl, hM2, k7⟩
  have K7 := K6.trans0 k7
  have RM := RM.keep k7
  have v10 := v10.keep k7 id
  have RN := own_rd hM2
  obtain ⟨a2, c2, rfl⟩ := own_shape hM2
  refine ⟨_, rfl, ?_⟩; (first | refine Then.go hmix ?_ | refine Sat.go hmix ?_ | refine ResK.go ?_ | skip); conv => whnf
  refine Store.fresh (vs := [.string (str (upL T)), .slice a2 ml.length c2]) (by rfl) rfl (by simp [Flat]) ?_
  have v11 := VarC.new w7 50 [.string (str (upL T)), .slice a2 ml.length c2]
  have k8 : Keeps w7 (w7.alloc (.cells [Value.string (str (upL T)), .slice a2 ml.length c2].toArray 50)) none_ := (Keeps.refl _ _).alloc _
  have K8 := K7.trans0 k8
  have RM := RM.keep k8
  have RN := RN.keep k8
  have v10 := v10.keep k8 id
  generalize w7.alloc (.cells [Value.string (str (upL T)), .slice a2 ml.length c2].toArray 50) = w8 at *
  generalize w7.heap.size = b11 at *
  have e00 : w8.cell? ⟨b10, 0, none⟩ = some (.string (str T)) := v10.at 0 _ rfl
  have e01 : w8.cell? ⟨b10, 0 + 1, none⟩ = some (.slice a1 ml.length c1) := v10.at 1 _ rfl
  have e10 : w8.cell? ⟨b11, 0, none⟩ = some (.string (str (upL T))) := v11.at 0 _ rfl
  have e11 : w8.cell? ⟨b11, 0 + 1, none⟩ = some (.slice a2 ml.length c2) := v11.at 1 _ rfl
  refine LGO ?_
  refine Draw.held (Keeps w8 · none_) (fun _ => true) (by decide +kernel) (Keeps.refl _ _).drew ?_
  refine LGO ?_
  refine HeldK (by rfl) e00 (fun _ h => h) ?_
  refine LGO ?_
  refine CallS.of (Tryd.call52 _ _) (law_upper (w := w8.drew) (str T) (by rw [str_size]; omega)) ?_
  rintro e w9 ⟨rfl, k9⟩
  rw [L_str]
  have J9 : Keeps w8 w9 none_ := (Keeps.refl w8 none_).drew.trans0 k9
  refine ⟨_, rfl, ?_⟩; (first | refine Then.go hmix ?_ | refine Sat.go hmix ?_ | refine ResK.go ?_ | skip); conv => whnf
  refine ⟨J9, ?_⟩
  refine LGO ?_
  refine HeldK (by rfl) e10 (fun _ h => h) ?_
  refine LGO ?_
  rw [show (!decide (str (upL T) = str (upL T))) = false by simp]
  refine LGO ?_
  refine HeldK (by rfl) e01 (fun _ h => h) ?_
  refine LGO ?_
  refine HeldK (by rfl) e11 (fun _ h => h) ?_
  refine LGO ?_
  have K9 := K8.trans0 J9
  have e01 := (J9.cell (cell_lt e01) id).trans e01
  have e11 := (J9.cell (cell_lt e11) id).trans e11
  obtain ⟨a1', c1', hx1', RM⟩ := RM
  injection hx1' with i1 _ i2
  subst i1; subst i2
  obtain ⟨a2', c2', hx2', RN⟩ := RN
  injection hx2' with i1 _ i2
  subst i1; subst i2
  clear hmk hmu
  refine Loop.intro (ι := Nat) (fun i => [(0, .string s), (1, .slice a ws.length cap), (2, .int .i64 width), (7, .bool true), (10, .pointer (some ⟨b10, 0, none⟩)), (11, .pointer (some ⟨b11, 0, none⟩)), (12, .int .i64 (i : Nat))])
    (fun i wr => Keeps w9 wr none_ ∧ i ≤ ml.length) (fun i => ml.length - i) 0 ⟨rfl, rfl, rfl, rfl, rfl, rfl, rfl, trivial⟩ ⟨Keeps.refl _ _, Nat.zero_le _⟩ ?_
  rintro i gg wq ⟨hKq, hi⟩
  have e01 := (hKq.cell (cell_lt e01) id).trans e01
  have e11 := (hKq.cell (cell_lt e11) id).trans e11
  (first | refine Then.go hmix ?_ | refine Sat.go hmix ?_ | refine ResK.go ?_ | skip); conv => whnf
  by_cases hlt : i < ml.length
  · obtain ⟨g1, rfl, _, h1⟩ := RM (by omega)
    obtain ⟨g2, rfl, _, h2⟩ := RN (by omega)
    have c1 := at_mark (at_keep h1 (J9.trans0 hKq)) hlt
    have c2 := at_mark (at_keep h2 (J9.trans0 hKq)) hlt
    refine Load.one (by rfl) e01 ?_
    (first | refine Then.go hmix ?_ | refine Sat.go hmix ?_ | refine ResK.go ?_ | skip); conv => whnf
    refine Br.dec_yes (by omega) ?_
    (first | refine Then.go hmix ?_ | refine Sat.go hmix ?_ | refine ResK.go ?_ | skip); conv => whnf
    refine Draw.heldEndAny (fun u => Keeps wq u none_) (fun _ => true) (by simp) (by decide +kernel) (by decide +kernel) (Keeps.refl _ _).drew ?_
    (first | refine Then.go hmix ?_ | refine Sat.go hmix ?_ | refine ResK.go ?_ | skip); conv => whnf
    refine Held.one (by rfl) (fun u ku => (ku.cell (cell_lt e01) id).trans e01) ?_
    refine GO ?_
    refine Held.agg (markCells ml[i]) (by rfl) (by rfl) (by rfl) (fun u ku => at_keep c1 ku) ?_
    refine GO ?_
    refine Held.one (by rfl) (fun u ku => (ku.cell (cell_lt e11) id).trans e11) ?_
    refine GO ?_
    refine Held.agg (markCells ml[i]) (by rfl) (by rfl) (by rfl) (fun u ku => at_keep c2 ku) ?_
    (first | refine Then.go hmix ?_ | refine Sat.go hmix ?_ | refine ResK.go ?_ | skip); conv => whnf
    refine mark_neq ml[i] ml[i] _ _ ?_
    rw [show (!decide (ml[i] = ml[i])) = false by simp]
    refine GO ?_
    exact ⟨i + 1, ⟨rfl, rfl, rfl, rfl, rfl, rfl, v_int (by simp), trivial⟩, ⟨hKq.drew, by omega⟩, by dsimp only; omega⟩
  have Kq := K9.trans0 hKq
  by_cases q5 : width < (s.size : Nat)
  · refine LGO ?_
    exact ⟨rfl, Kq⟩
  have hall := hall (by omega)
  refine LGO ?_
  refine CallS.of (Tryd.call36 _ _) (cut_Words (w := wq) s (hC.keep Kq) (hF.keep Kq) (by omega)) ?_
  rintro e w11 ⟨vW, rfl, hW, k11⟩
  have K11 := Kq.trans0 k11
  have hwdl := wordsL_len (L s)
  have e01 := (k11.cell (cell_lt e01) id).trans e01
  generalize wordsL (L s) = W at *
  obtain ⟨aW, cW, rfl, hrW⟩ := own_rd hW
  refine ⟨_, rfl, ?_⟩; (first | refine Then.go hmix ?_ | refine Sat.go hmix ?_ | refine ResK.go ?_ | skip); conv => whnf
  refine LGO ?_
  refine CallS.of (Tryd.call50 _ _) (ref_Sought (w := w11) ws (hv0.keep K11) hw20 hx1) ?_
  rintro e w12 ⟨vK, rfl, hKs, k12⟩
  have K12 := K11.trans0 k12
  have e01 := (k12.cell (cell_lt e01) id).trans e01
  generalize soughtL ws = ks at *
  have RK := (own_rd hKs).toO
  obtain ⟨aK, cK, rfl⟩ := own_shape hKs
  refine ⟨_, rfl, ?_⟩; (first | refine Then.go hmix ?_ | refine Sat.go hmix ?_ | refine ResK.go ?_ | skip); conv => whnf
  refine LGO ?_
  refine Loop.intro (ι := Nat) (fun i => [(7, .bool true), (10, .pointer (some ⟨b10, 0, none⟩)), (13, .slice aW W.length cW), (14, .slice aK ks.length cK), (15, .int .i64 ((hits ks (W.take i) : Nat) : Int)), (16, .int .i64 (i : Nat))])
    (fun i wr => Keeps w12 wr none_ ∧ i ≤ W.length) (fun i => W.length - i) 0 ⟨rfl, rfl, rfl, rfl, rfl, rfl, trivial⟩ ⟨Keeps.refl _ _, Nat.zero_le _⟩ ?_
  rintro q gg wz ⟨hKz, hq⟩
  (first | refine Then.go hmix ?_ | refine Sat.go hmix ?_ | refine ResK.go ?_ | skip); conv => whnf
  have hhl : hits ks (W.take q) ≤ q := by
    unfold hits
    exact Nat.le_trans (List.length_filter_le _ _) (by rw [List.length_take]; omega)
  by_cases hlt2 : q < W.length
  · obtain ⟨gW, rfl, _, hatW⟩ := hrW (by omega)
    have c0 : wz.cell? ⟨gW, 0 + q * 3, none⟩ = some (.string (str W[q].1)) := at_word (at_keep hatW (k12.trans0 hKz)) hlt2 0 _ rfl
    have hst : hits ks (W.take (q + 1)) = hits ks (W.take q) + if W[q].1 ∈ ks then 1 else 0 := by
      unfold hits
      rw [List.take_succ_eq_append_getElem hlt2, List.filter_append, List.length_append]
      by_cases h : W[q].1 ∈ ks <;> simp [h]
    generalize W[q] = x at *
    refine LGO ?_
    refine CallS.of (Tryd.call53 _ _) (ref_Has (w := wz) ks x.1 (RK.keep hKz) (by omega)) ?_
    rintro e wy ⟨rfl, ky⟩
    refine ⟨_, rfl, ?_⟩; (first | refine Then.go hmix ?_ | refine Sat.go hmix ?_ | refine ResK.go ?_ | skip); conv => whnf
    by_cases hm : x.1 ∈ ks
    · rw [decide_eq_true hm]
      rw [if_pos hm] at hst
      refine LGO ?_
      exact ⟨q + 1, ⟨rfl, rfl, rfl, rfl, v_int (by rw [hst]; simp), v_int (by simp), trivial⟩, ⟨hKz.trans0 ky, by omega⟩, by dsimp only; omega⟩
    · rw [decide_eq_false hm]
      rw [if_neg hm] at hst
      refine LGO ?_
      exact ⟨q + 1, ⟨rfl, rfl, rfl, rfl, v_int (by rw [hst]; simp), v_int (by simp), trivial⟩, ⟨hKz.trans0 ky, by omega⟩, by dsimp only; omega⟩
  · have hqq : q = W.length := by omega
    subst hqq
    rw [List.take_length] at hhl ⊢
    have e01 := (hKz.cell (cell_lt e01) id).trans e01
    rw [← hall] at hhl ⊢
    refine LGO ?_
    exact ⟨ret_bool (by simp), K12.trans0 hKz⟩
end
end Go.Proofs.YtmipmlcolaaonaaDoor
