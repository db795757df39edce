/- Helper text of this claim: lemmas and contracts that the proved statement rests on; no conditions of its own. -/
import Derived.Test.YtohhkegmbgancaaGreatDoorGAt3
namespace Go.Proofs.YtohhkegmbgancaaGreatDoor
set_option maxHeartbeats 4000000
open Go.RowKit Go.Pw Go.Vc Go.Cs Go.Lib
set_option linter.unusedVariables false
set_option maxRecDepth 100000
section
variable {w w' : World}
theorem zcz {v : Value} (l : List Bx) (up : Int) (nm : List UInt8) (but : Int) (hv : RowB w v l) (hl : l.length ≤ 1000000) (hn : nm.length ≤ 1000000) (hs : SmallB l) :
  Calls Tryz.prog 109 #[v, .int .i64 up, .string (str nm), .int .i64 but] w fun e w' => e = .returned (.bool (takenL l up nm but)) ∧ Kp w w' n_ := by
 obtain ⟨a, cap, rfl, hr⟩ := hv
 refine zaa (args := [.slice a l.length cap, .int .i64 up, .string (str nm), .int .i64 but]) Tryz.func109 rfl NL ?_; refine GW ?_
 refine Loop.intro (ι := Nat) (fun i => [(0, .slice a l.length cap), (1, .int .i64 up), (2, .string (str nm)), (3, .int .i64 but), (9, .int .i64 (i : Nat))])
  (fun i wr => Kp w wr n_ ∧ i ≤ l.length ∧ takenL l up nm but = takenL (l.drop i) up nm but) (fun i => l.length - i) 0 ⟨rfl, rfl, rfl, rfl, rfl, trivial⟩ ⟨Kp.refl _ _, Nat.zero_le _, rfl⟩ ?_
 rintro i gg wr ⟨hK, hi, ht⟩
 refine GW ?_
 by_cases hlt : i < l.length
 ·obtain ⟨g, o, rfl, hg, hat⟩ := hr (by omega)
  have hbs := hs l[i] (List.getElem_mem hlt)
  rw [List.drop_eq_getElem_cons hlt] at ht
  have hstep : takenL (l[i] :: l.drop (i + 1)) up nm but = (decide (l[i].up = up ∧ l[i].id ≠ but ∧ foldL l[i].name = foldL nm) || takenL (l.drop (i + 1)) up nm but) := rfl
  rw [hstep] at ht
  have hno : ¬ (l[i].up = up ∧ l[i].id ≠ but ∧ foldL l[i].name = foldL nm) → takenL l up nm but = takenL (l.drop (i + 1)) up nm but := fun h => by rw [ht, decide_eq_false h]; rfl
  have hyes : (l[i].up = up ∧ l[i].id ≠ but ∧ foldL l[i].name = foldL nm) → takenL l up nm but = true := fun h => by rw [ht, decide_eq_true h]; rfl
  clear ht hstep
  refine KGO ?_
  refine CallS.of (Tryz.call160 _ _) (zdr (w := wr) l[i].name nm (by omega) (by omega)) ?_
  rintro e w1 ⟨rfl, k1⟩
  have K1 := hK.trans0 k1
  refine RT ?_
  by_cases h1 : l[i].up = up
  rotate_left
  ·refine KGO ?_
   exact ⟨i + 1, ⟨rfl, rfl, rfl, rfl, v_int (by simp), trivial⟩, ⟨K1, by omega, hno fun h => h1 h.1⟩, by dsimp only; omega⟩
  by_cases h2 : l[i].id = but
  ·refine KGO ?_
   exact ⟨i + 1, ⟨rfl, rfl, rfl, rfl, v_int (by simp), trivial⟩, ⟨K1, by omega, hno fun h => h.2.1 h2⟩, by dsimp only; omega⟩
  by_cases h3 : foldL l[i].name = foldL nm
  ·rw [decide_eq_true h3]
   refine KGO ?_
   exact ⟨zad (hyes ⟨h1, h2, h3⟩).symm, K1⟩
  ·rw [decide_eq_false h3]
   refine KGO ?_
   exact ⟨i + 1, ⟨rfl, rfl, rfl, rfl, v_int (by simp), trivial⟩, ⟨K1, by omega, hno fun h => h3 h.2.2⟩, by dsimp only; omega⟩
 ·refine KGO ?_
  refine ⟨zad ?_, hK⟩
  rw [ht, List.drop_eq_nil_of_le (by omega)]; rfl
theorem rq_in {v : Value} (l : List Bx) (id bx : Int) (hv : RowB w v l) (hr : RightP l) {d : Nat} (hd : Dep l d id) (hb0 : bx ≠ 0) :
  Calls Tryz.prog 169 #[v, .int .i64 id, .int .i64 bx] w fun e w' => e = .returned (.bool (within l id bx)) ∧ Kp w w' n_ := by
 have hv0 := hv
 have hlen := hr.len
 obtain ⟨a, cap, rfl, hra⟩ := hv
 refine zaa (args := [.slice a l.length cap, .int .i64 id, .int .i64 bx]) Tryz.func169 rfl NL ?_; refine GW ?_
 refine Loop.intro (ι := Int × Nat) (fun i => [(0, .slice a l.length cap), (1, .int .i64 i.1), (2, .int .i64 bx)])
  (fun i wr => Kp w wr n_ ∧ Dep l i.2 i.1 ∧ (within l id bx = true ↔ Go.Cs.Reach l bx i.1)) (fun i => i.2) (id, d) ⟨rfl, rfl, rfl, trivial⟩ ⟨Kp.refl _ _, hd, zbr hr hb0 hd⟩ ?_
 rintro ⟨y, m⟩ gg wr ⟨hK, hm, ht⟩
 dsimp only at hm ht ⊢
 refine GW ?_
 by_cases h0 : y = 0
 ·refine KGO ?_
  refine ⟨zad (Eq.symm ?_), hK⟩
  rw [Bool.eq_false_iff]
  intro h
  have h2 := ht.1 h
  rw [h0] at h2
  cases h2 with
  | here => exact hb0 rfl
  | up h _ => rw [hr.zero] at h; cases h
 by_cases h1 : y = bx
 ·refine KGO ?_
  exact ⟨zad (ht.2 (h1 ▸ .here)).symm, hK⟩
 obtain ⟨m, rfl⟩ : ∃ m', m = m' + 1 := by
  cases m with
  | zero => exact absurd hm h0
  | succ m => exact ⟨m, rfl⟩
 obtain ⟨_, u, hu, hm2⟩ := hm
 rw [zbu] at hu
 cases hb : boxOf l y with
 | none => rw [hb] at hu; cases hu
 | some b =>
  rw [hb] at hu
  obtain rfl : b.up = u := Option.some.inj hu
  obtain ⟨hk, he, hf⟩ := zbY hb
  refine KGO ?_
  refine CallS.of (Tryz.call107 _ _) (zcF (w := wr) l y (hv0.keep hK) (by omega)) ?_
  rintro e w1 ⟨rfl, k1⟩
  have K1 := hK.trans0 k1
  rw [hf]
  refine RT ?_
  obtain ⟨g, o, rfl, hg, hat⟩ := hra (by omega)
  refine KGO ?_
  rw [he]
  refine KGO ?_
  refine ⟨(b.up, m), ⟨rfl, rfl, rfl, trivial⟩, ⟨K1, hm2, ?_⟩, by dsimp only; omega⟩
  dsimp only
  rw [ht]
  constructor
  ·intro h
   cases h with
   | here => exact absurd rfl h1
   | up h k => rw [zbu, hb] at h; rw [← Option.some.inj h] at k; exact k
  ·intro h
   exact .up (by rw [zbu, hb]; rfl) h
theorem zin {v : Value} (l : List Bx) (k : Nat) (x : Bx) (hv : RowB w v l) (hl : l.length ≤ 1000) (hk : k < l.length) :
  Calls Tryz.prog 168 #[v, .int .i64 (k : Nat), .agg (boxCells x).toArray] w fun e w' => ∃ v', e = .returned v' ∧ OwnB w' w.heap.size v' (l.set k x) ∧ Kp w w' n_ := by
 have hv0 := hv
 obtain ⟨a, cap, rfl, hra⟩ := hv
 obtain ⟨g0, o0, rfl, hg0, hat0⟩ := hra (by omega)
 refine zaa (args := [.slice (some ⟨g0, o0, none⟩) l.length cap, .int .i64 (k : Nat), .agg #[.int .i64 x.id, .int .i64 x.up, .string (str x.name), .string (str x.role)]]) Tryz.func168 rfl NL ?_; refine GW ?_
 rw [show w.alloc (.cells #[.int .i64 x.id, .int .i64 x.up, .string (str x.name), .string (str x.role)] 74) = w.alloc (.cells (List.toArray [.int .i64 x.id, .int .i64 x.up, .string (str x.name), .string (str x.role)]) 74) from rfl]
 have a_b0 := zao w 74 [.int .i64 x.id, .int .i64 x.up, .string (str x.name), .string (str x.role)]
 have k_w0 : Kp w (w.alloc (.cells (List.toArray [.int .i64 x.id, .int .i64 x.up, .string (str x.name), .string (str x.role)]) 74)) n_ := (Kp.refl _ _).alloc _
 have z_w0 : (w.alloc (.cells (List.toArray [.int .i64 x.id, .int .i64 x.up, .string (str x.name), .string (str x.role)]) 74)).heap.size = w.heap.size + 1 := by simp
 generalize w.alloc (.cells (List.toArray [.int .i64 x.id, .int .i64 x.up, .string (str x.name), .string (str x.role)]) 74) = w0 at *
 generalize hs_b0 : w.heap.size = b0 at *
 refine KGO ?_
 refine RunV.of (zgH _) ?_
 have o1 : (w0.alloc (.cells #[] 74)).ownsRow w0.heap.size 74 4 (.slice (some ⟨w0.heap.size, 0, none⟩) 0 0) 0 [] := World.ownsRow_made w0 #[] 0 (Nat.le_refl _) (by decide) (by simp)
 have k1 : Kp w0 (w0.alloc (.cells #[] 74)) n_ := (Kp.refl _ _).alloc _
 have hB : w0.heap.size ≤ (w0.alloc (.cells #[] 74)).heap.size := k1.size
 generalize w0.alloc (.cells #[] 74) = w1 at *
 refine KGO ?_
 have K1 := k_w0.trans0 k1
 have hnews : ∀ j u, (l.flatMap boxCells)[j]? = some u → w1.cell? ((⟨g0, o0, none⟩ : Addr).add j) = some u := fun j u hj => by
  rw [add_none]
  exact zak (hat0 j u hj) K1
 refine RunN.app Tryz.underlying31 boxInfo rfl (by decide) o1 hB ⟨g0, o0, none⟩ l.length cap (l.flatMap boxCells) (zaC boxCells 4 boxLen l) hnews (boxesOne l) (by omega) (by omega) fun v' w' h2 h3 => ?_
 have K2 : Kp w0 w' n_ := k1.own o1 (Nat.le_refl _) h3
 rw [List.nil_append, Nat.zero_add] at h2
 rcases own_blockK h2 with ⟨_, h0⟩ | ⟨g, cap2, cells, rfl, hBg, hvk, hnc, hcm, hcl, htk⟩
 ·omega
 have hlt0 := zac a_b0 K2
 refine KGO ?_
 refine Store.elemK x boxLen (by rfl) (zan (by rfl)) hvk hBg hnc hcm hcl htk hk fun w6 o6 v6 k6 => ?_
 have K6 : Kp w w6 n_ := (k_w0.trans0 K2).trans k6 fun q hq e => by
  have e : q = g := e
  have := k_w0.size
  omega
 refine KGO ?_
 refine ⟨_, rfl, ?_, K6⟩
 rw [OwnB, List.length_set]
 exact zaj o6 (by omega)
end
section
end
theorem zej {l : List Bx} {id : Int} (h : boxOf l id = none) : hasId l id = false := by rw [zlj, h]; rfl
theorem zgL {l : List Bx} {id : Int} {b : Bx} (h : boxOf l id = some b) : hasId l id = true := by rw [zlj, h]; rfl
section
variable {w w' : World}
theorem zoI {v : Value} (l : List Bx) (id : Int) (nm : List UInt8) (hv : RowB w v l) (hl : l.length ≤ 1000) (hs : SmallB l) (hn : nm.length ≤ 140737488355328) :
  Calls Tryz.prog 112 #[v, .int .i64 id, .string (str nm)] w fun e w' => ∃ v', e = .returned (.tuple #[v', .int .i64 ((nameL l id nm).2 : Nat)]) ∧ OwnB w' w.heap.size v' (nameL l id nm).1 ∧ Kp w w' n_ := by
 have hv0 := hv
 obtain ⟨a, cap, rfl, hr⟩ := hv
 refine zaa (args := [.slice a l.length cap, .int .i64 id, .string (str nm)]) Tryz.func112 rfl NL ?_; refine GW ?_
 refine CallS.of (Tryz.call105 _ _) (zet (w := w) l hv0 hl hs) ?_
 rintro e w1 ⟨rfl, k1⟩
 refine RT ?_
 by_cases h1 : rightL l = true
 rotate_left
 ·rw [show rightL l = false by simpa using h1]
  refine KGO ?_
  exact ⟨zam (R := nameL l id nm) 1 (by unfold nameL; rw [if_pos h1]) k1⟩
 rw [h1]
 have hR := (zaE l).1 h1
 have g1 : ¬ ¬ rightL l = true := fun h => h h1
 refine KGO ?_
 refine CallS.of (Tryz.call107 _ _) (zcF (w := w1) l id (hv0.keep k1) (by omega)) ?_
 rintro e w2 ⟨rfl, k2⟩
 have K2 := k1.trans0 k2
 refine RT ?_
 refine KGO ?_
 refine CallS.of (Tryz.call103 _ _) (zgu (w := w2) (str nm) (by rw [zav]; omega)) ?_
 rintro e w3 ⟨rfl, k3⟩
 rw [L_str]
 have K3 := K2.trans0 k3
 refine RT ?_
 cases hb : boxOf l id with
 | none =>
  have hneg := zcs.2 hb
  refine KGO ?_
  exact ⟨zam (R := nameL l id nm) 5 (by unfold nameL; rw [if_neg g1, hb]) K3⟩
 | some b =>
  obtain ⟨hm, rfl⟩ := zbO hb
  obtain ⟨hk1, hk2, hf⟩ := zbY hb
  rw [hf]
  generalize findN l b.id = k at *
  by_cases h2 : namedB nm = true
  rotate_left
  ·rw [show namedB nm = false by simpa using h2]
   refine KGO ?_
   exact ⟨zam (R := nameL l b.id nm) 1 (by unfold nameL; rw [if_neg g1, hb]; dsimp only; rw [if_pos h2]) K3⟩
  rw [h2]
  obtain ⟨gb, o, rfl, hgb, hat⟩ := hr (by omega)
  refine KGO ?_
  rw [hk2]
  have vk := VarK.new w3 74 (boxCells b)
  refine Store.fresh (vs := boxCells b) (by rfl) rfl (zan (by rfl)) ?_
  obtain ⟨a_b4, k_w4, z_w4⟩ := new3 w3 74 (boxCells b)
  generalize w3.alloc (.cells (List.toArray (boxCells b)) 74) = w4 at *
  generalize hs_b4 : w3.heap.size = b4 at *
  clear a_b4
  refine KGO ?_
  refine Store.cellK vk (i := 2) (by show 2 < 4; omega) (by rfl) ⟨rfl, by simp, by simp⟩ fun w5 vk5 k5 => ?_
  have vk5 : VarK w5 b4 74 (boxCells { b with name := nm }) := vk5
  have K5 : Kp w w5 n_ := (K3.trans0 k_w4).trans k5 fun q hq e => by
   have e : q = b4 := e
   have := K3.size
   omega
  have a5 := vk5.at
  refine KGO ?_
  refine CallS.of (Tryz.call109 _ _) (zcz (w := w5) l b.up nm b.id (hv0.keep K5) (by omega) (by have := ((zbj _).1 h2).2.1; omega) hs) ?_
  rintro e w6 ⟨rfl, k6⟩
  have K6 := K5.trans0 k6
  refine RT ?_
  by_cases h3 : takenL l b.up nm b.id = true
  ·rw [h3]
   refine KGO ?_
   exact ⟨zam (R := nameL l b.id nm) 4 (by unfold nameL; rw [if_neg g1, hb]; dsimp only; rw [if_neg (fun h => h h2), if_pos h3]) K6⟩
  rw [show takenL l b.up nm b.id = false by simpa using h3]
  have hres : nameL l b.id nm = (setName l b.id nm, 0) := by unfold nameL; rw [if_neg g1, hb]; dsimp only; rw [if_neg (fun h => h h2), if_neg h3]
  refine KGO ?_
  refine CallS.of (Tryz.call168 _ _) (zin (w := w6) l k { b with name := nm } (hv0.keep K6) hl hk1) ?_
  rintro e w7 ⟨v7, rfl, o7, k7⟩
  rw [zfF hR.asc hm (fun c => { c with name := nm }) hk1 hk2] at o7
  have o7 : OwnB w7 w6.heap.size v7 (setName l b.id nm) := o7
  obtain ⟨a7, c7, rfl⟩ := zab o7
  refine RT ?_
  refine KGO ?_
  exact ⟨zbK (R := nameL l b.id nm) hres (zaj o7 K6.size) (K6.trans0 k7)⟩
theorem zow {v : Value} (l : List Bx) (id up : Int) (hv : RowB w v l) (hl : l.length ≤ 1000) (hs : SmallB l) :
  Calls Tryz.prog 113 #[v, .int .i64 id, .int .i64 up] w fun e w' => ∃ v', e = .returned (.tuple #[v', .int .i64 ((moveL l id up).2 : Nat)]) ∧ OwnB w' w.heap.size v' (moveL l id up).1 ∧ Kp w w' n_ := by
 have hv0 := hv
 obtain ⟨a, cap, rfl, hr⟩ := hv
 refine zaa (args := [.slice a l.length cap, .int .i64 id, .int .i64 up]) Tryz.func113 rfl NL ?_; refine GW ?_
 refine CallS.of (Tryz.call105 _ _) (zet (w := w) l hv0 hl hs) ?_
 rintro e w1 ⟨rfl, k1⟩
 refine RT ?_
 by_cases h1 : rightL l = true
 rotate_left
 ·rw [show rightL l = false by simpa using h1]
  refine KGO ?_
  exact ⟨zam (R := moveL l id up) 1 (by unfold moveL; rw [if_pos h1]) k1⟩
 rw [h1]
 have hR := (zaE l).1 h1
 have g1 : ¬ ¬ rightL l = true := fun h => h h1
 refine KGO ?_
 refine CallS.of (Tryz.call107 _ _) (zcF (w := w1) l id (hv0.keep k1) (by omega)) ?_
 rintro e w2 ⟨rfl, k2⟩
 have K2 := k1.trans0 k2
 refine RT ?_
 cases hb : boxOf l id with
 | none =>
  have hneg := zcs.2 hb
  refine KGO ?_
  exact ⟨zam (R := moveL l id up) 5 (by unfold moveL; rw [if_neg g1, hb]) K2⟩
 | some b =>
  obtain ⟨hm, rfl⟩ := zbO hb
  obtain ⟨hk1, hk2, hf⟩ := zbY hb
  rw [hf]
  generalize findN l b.id = k at *
  by_cases h0 : up = 0
  ·have hup : up = 0 ∨ hasId l up = true := .inl h0
   refine KGO ?_
   have Ky := K2
   have g2 : ¬ ¬ (up = 0 ∨ hasId l up = true) := fun h => h hup
   have hb0 : b.id ≠ 0 := by have := (hR.pos b hm).1; omega
   have hup2 : up = 0 ∨ ∃ c ∈ l, c.id = up := hup.imp id fun h => (zar _ _).1 h
   obtain ⟨hd, _⟩ := zcu hR hup2
   refine CallS.of (Tryz.call169 _ _) (rq_in (w := w2) l up b.id (hv0.keep Ky) hR hd hb0) ?_
   rintro e w4 ⟨rfl, k4⟩
   have K4 := Ky.trans0 k4
   refine RT ?_
   have hwu := zdu hR hm hup2
   by_cases h4 : within l up b.id = true
   ·have hru := (zbr hR hb0 hd).1 h4
    rw [h4]
    refine KGO ?_
    exact ⟨zam (R := moveL l b.id up) 11 (by unfold moveL; rw [if_neg g1, hb]; dsimp only; rw [if_neg g2, if_pos (hwu.2 hru)]) K4⟩
   have hru : ¬ Go.Cs.Reach l b.id up := fun h => h4 ((zbr hR hb0 hd).2 h)
   have g3 : ¬ (up ≠ 0 ∧ within l up b.id = true) := fun h => h4 h.2
   rw [show within l up b.id = false by simpa using h4]
   have hdm := zgf hR hm hup hru
   clear hwu hd hup2
   obtain ⟨gb, o, rfl, hgb, hat⟩ := hr (by omega)
   refine KGO ?_
   rw [hk2]
   have vk := VarK.new w4 74 (boxCells b)
   refine Store.fresh (vs := boxCells b) (by rfl) rfl (zan (by rfl)) ?_
   obtain ⟨a_b5, k_w5, z_w5⟩ := new3 w4 74 (boxCells b)
   generalize w4.alloc (.cells (List.toArray (boxCells b)) 74) = w5 at *
   generalize hs_b5 : w4.heap.size = b5 at *
   clear a_b5
   refine KGO ?_
   refine Store.cellK vk (i := 1) (by show 1 < 4; omega) (by rfl) ⟨rfl, by simp, by simp⟩ fun w6 vk6 k6 => ?_
   have vk6 : VarK w6 b5 74 (boxCells { b with up := up }) := vk6
   have K6 : Kp w w6 n_ := (K4.trans0 k_w5).trans k6 fun q hq e => by
    have e : q = b5 := e
    have := K4.size
    omega
   have a6 := vk6.at
   refine KGO ?_
   refine CallS.of (Tryz.call168 _ _) (zin (w := w6) l k { b with up := up } (hv0.keep K6) hl hk1) ?_
   rintro e w7 ⟨v7, rfl, o7, k7⟩
   rw [zfF hR.asc hm (fun c => { c with up := up }) hk1 hk2] at o7
   have o7 : OwnB w7 w6.heap.size v7 (setUp l b.id up) := o7
   have hml : (setUp l b.id up).length = l.length := by unfold setUp; rw [List.length_map]
   have r7 := zat o7
   have K7 := K6.trans0 k7
   have a7 := zac a6 k7
   clear a6 vk vk6
   obtain ⟨a8, c8, rfl⟩ := zab o7
   refine RT ?_
   refine KGO ?_
   generalize hme : setUp l b.id up = m at *
   obtain ⟨a9, c9, hre, hr9⟩ := r7
   injection hre with e1 e2 e3
   subst e1; subst e3
   refine Loop.intro (ι := Nat) (fun i => [(0, .slice (some ⟨gb, o, none⟩) l.length cap), (1, .int .i64 b.id), (2, .int .i64 up), (9, .pointer (some ⟨b5, 0, none⟩)), (10, .slice a8 m.length c8), (11, .int .i64 (i : Nat))])
    (fun i wr => Kp w7 wr n_ ∧ i ≤ m.length ∧ ∀ c ∈ m.take i, ¬ 8 < deepR m c.id) (fun i => m.length - i) 0 ⟨rfl, rfl, rfl, rfl, rfl, rfl, trivial⟩ ⟨Kp.refl _ _, Nat.zero_le _, by simp⟩ ?_
   rintro i gg wr ⟨hK, hi, hnd⟩
   refine GW ?_
   by_cases hlt : i < m.length
   ·obtain ⟨g8, o8, rfl, hg8, hat8⟩ := hr9 (by omega)
    refine KGO ?_
    refine CallS.of (Tryz.call108 _ _) (zdS (w := wr) m m[i].id (RowO.keep ⟨_, _, rfl, fun _ => ⟨g8, o8, rfl, hg8, hat8⟩⟩ hK) (by omega)) ?_
    rintro e w9 ⟨rfl, k9⟩
    have K9 := hK.trans0 k9
    refine RT ?_
    by_cases h8 : 8 < deepR m m[i].id
    ·have g4 : 8 < dpt l up + belowL l b.id := hdm.2 ⟨m[i], List.getElem_mem hlt, h8⟩
     refine KGO ?_
     exact ⟨zam (R := moveL l b.id up) 10 (by unfold moveL; rw [if_neg g1, hb]; dsimp only; rw [if_neg g2, if_neg g3, if_pos g4]) (K7.trans0 K9)⟩
    ·refine KGO ?_
     refine ⟨i + 1, ⟨rfl, rfl, rfl, rfl, rfl, v_int (by simp), trivial⟩, ⟨K9, by omega, ?_⟩, by dsimp only; omega⟩
     rw [List.take_succ_eq_append_getElem hlt]
     intro c hc
     rcases List.mem_append.1 hc with hc | hc
     ·exact hnd c hc
     ·rw [List.mem_singleton.1 hc]; exact h8
   ·have g4 : ¬ 8 < dpt l up + belowL l b.id := fun h => by
     obtain ⟨c, hc, h8⟩ := hdm.1 h
     rw [List.take_of_length_le (by omega)] at hnd
     exact hnd c hc h8
    clear hdm hnd
    refine KGO ?_
    refine CallS.of (Tryz.call109 _ _) (zcz (w := wr) l up b.name b.id (hv0.keep (K7.trans0 hK)) (by omega) (hs b hm).1 hs) ?_
    rintro e w9 ⟨rfl, k9⟩
    have K9 := hK.trans0 k9
    refine RT ?_
    by_cases h5 : takenL l up b.name b.id = true
    ·rw [h5]
     refine KGO ?_
     exact ⟨zam (R := moveL l b.id up) 4 (by unfold moveL; rw [if_neg g1, hb]; dsimp only; rw [if_neg g2, if_neg g3, if_neg g4, if_pos h5]) (K7.trans0 K9)⟩
    rw [show takenL l up b.name b.id = false by simpa using h5]
    refine KGO ?_
    exact ⟨zbK (R := moveL l b.id up) (m := m) (by rw [← hme]; unfold moveL; rw [if_neg g1, hb]; dsimp only; rw [if_neg g2, if_neg g3, if_neg g4, if_neg h5]) (zaj (zaf o7 K9) K6.size) (K7.trans0 K9)⟩
  ·refine KGO ?_
   refine CallS.of (Tryz.call107 _ _) (zcF (w := w2) l up (hv0.keep K2) (by omega)) ?_
   rintro e w3 ⟨rfl, k3⟩
   have K3 := K2.trans0 k3
   refine RT ?_
   cases hbu : boxOf l up with
   | none =>
    have hneg := zcs.2 hbu
    have hnu : ¬ (up = 0 ∨ hasId l up = true) := fun h => h.elim h0 fun h => by rw [zej hbu] at h; cases h
    refine KGO ?_
    exact ⟨zam (R := moveL l b.id up) 5 (by unfold moveL; rw [if_neg g1, hb]; dsimp only; rw [if_pos hnu]) K3⟩
   | some c =>
    obtain ⟨_, _, hfu⟩ := zbY hbu
    have hup : up = 0 ∨ hasId l up = true := .inr (zgL hbu)
    rw [hfu]
    clear hfu
    refine KGO ?_
    have Ky := K3
    have g2 : ¬ ¬ (up = 0 ∨ hasId l up = true) := fun h => h hup
    have hb0 : b.id ≠ 0 := by have := (hR.pos b hm).1; omega
    have hup2 : up = 0 ∨ ∃ c ∈ l, c.id = up := hup.imp id fun h => (zar _ _).1 h
    obtain ⟨hd, _⟩ := zcu hR hup2
    refine CallS.of (Tryz.call169 _ _) (rq_in (w := w3) l up b.id (hv0.keep Ky) hR hd hb0) ?_
    rintro e w4 ⟨rfl, k4⟩
    have K4 := Ky.trans0 k4
    refine RT ?_
    have hwu := zdu hR hm hup2
    by_cases h4 : within l up b.id = true
    ·have hru := (zbr hR hb0 hd).1 h4
     rw [h4]
     refine KGO ?_
     exact ⟨zam (R := moveL l b.id up) 11 (by unfold moveL; rw [if_neg g1, hb]; dsimp only; rw [if_neg g2, if_pos (hwu.2 hru)]) K4⟩
    have hru : ¬ Go.Cs.Reach l b.id up := fun h => h4 ((zbr hR hb0 hd).2 h)
    have g3 : ¬ (up ≠ 0 ∧ within l up b.id = true) := fun h => h4 h.2
    rw [show within l up b.id = false by simpa using h4]
    have hdm := zgf hR hm hup hru
    clear hwu hd hup2
    obtain ⟨gb, o, rfl, hgb, hat⟩ := hr (by omega)
    refine KGO ?_
    rw [hk2]
    have vk := VarK.new w4 74 (boxCells b)
    refine Store.fresh (vs := boxCells b) (by rfl) rfl (zan (by rfl)) ?_
    obtain ⟨a_b5, k_w5, z_w5⟩ := new3 w4 74 (boxCells b)
    generalize w4.alloc (.cells (List.toArray (boxCells b)) 74) = w5 at *
    generalize hs_b5 : w4.heap.size = b5 at *
    clear a_b5
    refine KGO ?_
    refine Store.cellK vk (i := 1) (by show 1 < 4; omega) (by rfl) ⟨rfl, by simp, by simp⟩ fun w6 vk6 k6 => ?_
    have vk6 : VarK w6 b5 74 (boxCells { b with up := up }) := vk6
    have K6 : Kp w w6 n_ := (K4.trans0 k_w5).trans k6 fun q hq e => by
     have e : q = b5 := e
     have := K4.size
     omega
    have a6 := vk6.at
    refine KGO ?_
    refine CallS.of (Tryz.call168 _ _) (zin (w := w6) l k { b with up := up } (hv0.keep K6) hl hk1) ?_
    rintro e w7 ⟨v7, rfl, o7, k7⟩
    rw [zfF hR.asc hm (fun c => { c with up := up }) hk1 hk2] at o7
    have o7 : OwnB w7 w6.heap.size v7 (setUp l b.id up) := o7
    have hml : (setUp l b.id up).length = l.length := by unfold setUp; rw [List.length_map]
    have r7 := zat o7
    have K7 := K6.trans0 k7
    have a7 := zac a6 k7
    clear a6 vk vk6
    obtain ⟨a8, c8, rfl⟩ := zab o7
    refine RT ?_
    refine KGO ?_
    generalize hme : setUp l b.id up = m at *
    obtain ⟨a9, c9, hre, hr9⟩ := r7
    injection hre with e1 e2 e3
    subst e1; subst e3
    refine Loop.intro (ι := Nat) (fun i => [(0, .slice (some ⟨gb, o, none⟩) l.length cap), (1, .int .i64 b.id), (2, .int .i64 up), (9, .pointer (some ⟨b5, 0, none⟩)), (10, .slice a8 m.length c8), (11, .int .i64 (i : Nat))])
     (fun i wr => Kp w7 wr n_ ∧ i ≤ m.length ∧ ∀ c ∈ m.take i, ¬ 8 < deepR m c.id) (fun i => m.length - i) 0 ⟨rfl, rfl, rfl, rfl, rfl, rfl, trivial⟩ ⟨Kp.refl _ _, Nat.zero_le _, by simp⟩ ?_
    rintro i gg wr ⟨hK, hi, hnd⟩
    refine GW ?_
    by_cases hlt : i < m.length
    ·obtain ⟨g8, o8, rfl, hg8, hat8⟩ := hr9 (by omega)
     refine KGO ?_
     refine CallS.of (Tryz.call108 _ _) (zdS (w := wr) m m[i].id (RowO.keep ⟨_, _, rfl, fun _ => ⟨g8, o8, rfl, hg8, hat8⟩⟩ hK) (by omega)) ?_
     rintro e w9 ⟨rfl, k9⟩
     have K9 := hK.trans0 k9
     refine RT ?_
     by_cases h8 : 8 < deepR m m[i].id
     ·have g4 : 8 < dpt l up + belowL l b.id := hdm.2 ⟨m[i], List.getElem_mem hlt, h8⟩
      refine KGO ?_
      exact ⟨zam (R := moveL l b.id up) 10 (by unfold moveL; rw [if_neg g1, hb]; dsimp only; rw [if_neg g2, if_neg g3, if_pos g4]) (K7.trans0 K9)⟩
     ·refine KGO ?_
      refine ⟨i + 1, ⟨rfl, rfl, rfl, rfl, rfl, v_int (by simp), trivial⟩, ⟨K9, by omega, ?_⟩, by dsimp only; omega⟩
      rw [List.take_succ_eq_append_getElem hlt]
      intro c hc
      rcases List.mem_append.1 hc with hc | hc
      ·exact hnd c hc
      ·rw [List.mem_singleton.1 hc]; exact h8
    ·have g4 : ¬ 8 < dpt l up + belowL l b.id := fun h => by
      obtain ⟨c, hc, h8⟩ := hdm.1 h
      rw [List.take_of_length_le (by omega)] at hnd
      exact hnd c hc h8
     clear hdm hnd
     refine KGO ?_
     refine CallS.of (Tryz.call109 _ _) (zcz (w := wr) l up b.name b.id (hv0.keep (K7.trans0 hK)) (by omega) (hs b hm).1 hs) ?_
     rintro e w9 ⟨rfl, k9⟩
     have K9 := hK.trans0 k9
     refine RT ?_
     by_cases h5 : takenL l up b.name b.id = true
     ·rw [h5]
      refine KGO ?_
      exact ⟨zam (R := moveL l b.id up) 4 (by unfold moveL; rw [if_neg g1, hb]; dsimp only; rw [if_neg g2, if_neg g3, if_neg g4, if_pos h5]) (K7.trans0 K9)⟩
     rw [show takenL l up b.name b.id = false by simpa using h5]
     refine KGO ?_
     exact ⟨zbK (R := moveL l b.id up) (m := m) (by rw [← hme]; unfold moveL; rw [if_neg g1, hb]; dsimp only; rw [if_neg g2, if_neg g3, if_neg g4, if_neg h5]) (zaj (zaf o7 K9) K6.size) (K7.trans0 K9)⟩
end
end Go.Proofs.YtohhkegmbgancaaGreatDoor
