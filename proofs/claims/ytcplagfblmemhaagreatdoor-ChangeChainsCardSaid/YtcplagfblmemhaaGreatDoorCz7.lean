/- Helper text of this claim: lemmas and contracts that the proved statement rests on; no conditions of its own. -/
import Derived.Test.YtcplagfblmemhaaGreatDoorGCz6
import Derived.Test.YtcplagfblmemhaaGreatDoorKit12
namespace Go.Proofs.YtcplagfblmemhaaGreatDoor
set_option linter.unusedVariables false
set_option maxHeartbeats 16000000
open Go.Shelf Go.RowKit Go.Pw Go.Vc Go.Cs Go.Lib Go.Cd Go.Cx
set_option linter.unusedVariables false
set_option maxRecDepth 100000
abbrev accCp (p : Hd × Acc) : List Value := accC p.1 p.2
theorem lenAc (p : Hd × Acc) : (accCp p).length = 8 := rfl
theorem infoAc : (Tryz.prog.info? 36).map (fun i => (i.zero, i.size, i.bytes)) = some (some (.agg #[.slice none 0 0, .slice none 0 0, .slice none 0 0, .string ⟨#[]⟩, .slice none 0 0, .int .i64 0, .int .i64 0, .int .i64 0]), 8, 136) := by kernel_rfl
theorem tyAc : RowTy 25 36 accCp 8 136 := ⟨Tryz.underlying25, ⟨_, infoAc, rfl⟩, by decide, lenAc, fun x => List.all_eq_true.1 (by rfl)⟩
theorem bs1Ac (p : Hd × Acc) (w : World) : (Instr.buildSlice 25 1 [(0, .agg (accCp p).toArray)].toArray).run Tryz.prog w = .ok (.slice (some ⟨w.heap.size, 0, none⟩) 1 1) (w.alloc (.cells (List.toArray (accCp p)) 36)) := by
 simp [Instr.buildSlice, go_sem, Tryz.runUnderlying25, accC]
theorem zbJ (s : Sl) (b : Option Addr) (w : World) : (Instr.build 28 [(0, .slice s.a s.n s.c), (1, .pointer b)].toArray).run Tryz.prog w = .ok (.agg #[.slice s.a s.n s.c, .pointer b]) w := by
 simp [Instr.build, Instr.fill, go_sem, Tryz.runUnderlying28]
def histW (W : List Acc) (o : Opr) : List Acc := if (applyA (W.getD (W.length - 1) default) o).2.2 = 0 then W ++ [(applyA (W.getD (W.length - 1) default) o).1] else W
def histA (l : List Opr) : List Acc := l.foldl histW [newA]
theorem zmY (l : List Opr) (o : Opr) : histA (l ++ [o]) = histW (histA l) o := by unfold histA; rw [List.foldl_append]; rfl
abbrev accs (H : List (Hd × Acc)) : List Acc := H.map fun p : Hd × Acc => p.2
structure HistAt (w : World) (B1 B2 : Nat) (s : Sl) (nb : Nat) (kept : Int) (H : List (Hd × Acc)) : Prop where
 own : w.ownsRow B1 36 8 s.v H.length (H.flatMap accCp)
 book : ∃ v hs, BkAt w B2 nb v hs (bookA kept (accs H))
 stab : ∀ p ∈ H, StabA w p.1 p.2
 chain : ChainW (accs H)
 zero : ((accs H).getD 0 default).mails = []
theorem HistAt.keep0 {w w' : World} {B1 B2 nb : Nat} {s : Sl} {kept : Int} {H : List (Hd × Acc)} (h : HistAt w B1 B2 s nb kept H) (k : Kp w w' n_) : HistAt w' B1 B2 s nb kept H :=
 ⟨zab h.own k, let ⟨v, hs, b⟩ := h.book; ⟨v, hs, b.keep0 k⟩, fun p hp => (h.stab p hp).keep k, h.chain, h.zero⟩
theorem HistAt.stepH {w w' : World} {B1 B2 nb b : Nat} {s : Sl} {kept : Int} {H : List (Hd × Acc)} {cs : List Value} (h : HistAt w B1 B2 s nb kept H) (hv : VarK w b 28 cs) (k : Kp w w' (one_ b)) : HistAt w' B1 B2 s nb kept H :=
 ⟨zad h.own k (fun q hq e => by have e : q = b := e; subst e; exact zae h.own hv (by decide) hq), let ⟨v, hs, bk⟩ := h.book; ⟨v, hs, bk.keep k fun q e => by have e : q = b := e; subst e; exact hv.foreign (by decide) (by decide) (by decide)⟩, fun p hp => (h.stab p hp).stepT hv (by decide) k, h.chain, h.zero⟩
theorem StabA.note {u u' : World} {B nb : Nat} {vb : Sl} {hs : List Sl} {k : Bk} {h : Hd} {A : Acc} (s : StabA u h A) (bk : BkAt u B nb vb hs k) (kk : Kp u u' (fun q => q = nb ∨ vb.v.ownBlock = some q)) : StabA u' h A := s.of (kk.mono fun q _ e => by
 rcases e with rfl | e
 ·exact ⟨_, _, bk.var, by decide⟩
 ·obtain ⟨cs, hc⟩ := zby bk.own e
  exact ⟨cs, _, hc, by decide⟩)
theorem zeA {u : World} {B nb r : Nat} {vb : Sl} {hs : List Sl} {k : Bk} {T : TypeId} {cs : List Value} (bk : BkAt u B nb vb hs k) (hv : VarK u r T cs) (h1 : 78 ≠ T) (h2 : 53 ≠ T) : ¬ (r = nb ∨ vb.v.ownBlock = some r) := by
 rintro (rfl | e)
 ·have a1 := bk.var
  have a2 := hv
  unfold VarK at a1 a2
  rw [a1] at a2
  injection a2 with a2; injection a2 with _ a3 _
  exact h1 a3
 ·exact zae bk.own hv h2 e
theorem zmE {u u' : World} {B B' nb n : Nat} {v : Value} {xs : List Value} {vb : Sl} {hs : List Sl} {k : Bk} (row : u.ownsRow B' 36 8 v n xs) (bk : BkAt u B nb vb hs k) (kk : Kp u u' (fun q => q = nb ∨ vb.v.ownBlock = some q)) : u'.ownsRow B' 36 8 v n xs := zad row kk fun q hq e => by
 rcases e with rfl | e
 ·exact zae row bk.var (by decide) hq
 ·exact zbK row bk.own (by decide) hq e
theorem BkAt.base {u : World} {B B' nb : Nat} {vb : Sl} {hs : List Sl} {k : Bk} (h : BkAt u B nb vb hs k) (hB : B' ≤ B) : BkAt u B' nb vb hs k := ⟨h.var, zaj h.own hB, h.hl, fun i hi => zaj (h.row i hi) hB, h.good⟩
theorem HistAt.base {u : World} {B B' nb : Nat} {s : Sl} {kept : Int} {H : List (Hd × Acc)} (h : HistAt u B B s nb kept H) (hB : B' ≤ B) : HistAt u B' B' s nb kept H := ⟨zaj h.own hB, let ⟨v, hs, b⟩ := h.book; ⟨v, hs, b.base hB⟩, h.stab, h.chain, h.zero⟩
structure StB where
 i : Nat
 H : List (Hd × Acc)
 s : Sl
 h : Hd
 A : Acc
section
variable {w : World}
theorem zeH {v : Value} (l : List Opr) (kept : Int) (hv : RowOp w v l) (hl : l.length ≤ 40) (hf : ∀ o ∈ l, FitO o) (hk1 : 1 ≤ kept) (hk2 : kept ≤ 256) (hE : BEnv w) :
  Calls Tryz.prog 8 #[v, .int .i64 kept] w fun e w' => ∃ s nb H, e = .returned (.tuple #[.agg #[.slice s.a s.n s.c, .pointer (some ⟨nb, 0, none⟩)], .bool true]) ∧ HistAt w' w.heap.size w.heap.size s nb kept H ∧ accs H = histA l ∧ w.heap.size ≤ nb ∧ nb < w'.heap.size ∧ H.length ≤ 41 ∧ Kp w w' n_ := by
 obtain ⟨lv, hlv, hr, hop⟩ := hv
 have hlen : lv.length = l.length := by rw [← hlv, List.length_map]
 obtain ⟨a, cap, rfl, hr⟩ := hr
 refine zaa (args := [.slice a lv.length cap, .int .i64 kept]) Tryz.func8 rfl NL ?_; refine GW ?_
 obtain ⟨a_b4, v_b4, k_w1, z_w1, r_w1⟩ := new5 w 28 ([.slice none 0 0, .pointer none])
 generalize w.alloc (.cells (List.toArray ([.slice none 0 0, .pointer none])) 28) = w1 at *
 generalize hs_b4 : w.heap.size = b4 at *
 refine KGO ?_
 refine CallS.of (Tryz.call22 _ _) (zqK (w := w1) (hE.keep k_w1)) ?_
 rintro e w2 ⟨h0, rfl, st0, k2⟩
 refine RT ?_
 have K2 := k_w1.trans0 k2
 refine KGO ?_
 have v6 := VarK.new w2 36 (accC h0 newA)
 refine Store.fresh (vs := accC h0 newA) (by rfl) rfl (zam (by rfl)) ?_
 obtain ⟨a_b6, k_wB, z_wB⟩ := new3 w2 36 (accC h0 newA)
 generalize w2.alloc (.cells (List.toArray (accC h0 newA)) 36) = wB at *
 generalize hs_b6 : w2.heap.size = b6 at *
 have st0 := st0.keep k_wB
 have K3 := K2.trans0 k_wB
 have v4 := v_b4.keep0 (k2.trans0 k_wB)
 have hb46 : b4 < b6 := by have := k2.size; omega
 clear a_b4 v_b4
 refine KGO ?_
 refine Draw.cut (ι := Nat × Nat × Nat) (fun p => [(0, .slice a lv.length cap), (4, .pointer (some ⟨b4, 0, none⟩)), (6, .pointer (some ⟨b6, 0, none⟩)), (7, .pointer (some ⟨p.1, 0, none⟩))])
  (fun p u => Kp wB u n_ ∧ VarK u p.1 28 [.slice (some ⟨p.2.1, 0, none⟩) 1 1, .pointer (some ⟨p.2.2, 0, none⟩)] ∧ u.ownsRow wB.heap.size 36 8 (.slice (some ⟨p.2.1, 0, none⟩) 1 1) 1 (accCp (h0, newA)) ∧ BkAt u wB.heap.size p.2.2 ⟨none, 0, 0⟩ [] ⟨0, kept, []⟩ ∧ wB.heap.size ≤ p.1 ∧ wB.heap.size ≤ p.2.2) ?_ ?_
 ·have kd : Kp wB wB.drew n_ := (Kp.refl wB n_).drew
  refine Draw.tree (fun u => Kp wB u n_) (fun _ => true) 4 [1, 5, 7, 8] [0, 2, 3, 4, 6] (by decide +kernel) kd ?_
  refine TreeS.node [(1, [0, 1], [5, 7, 8], [2, 3, 4, 6]), (5, [2, 3, 4, 5], [1, 7, 8], [0, 6]), (7, [7], [1, 5, 8], [0, 2, 3, 4, 6])] (by decide +kernel) ?_
  intro p hp
  simp only [List.mem_cons, List.not_mem_nil, or_false] at hp
  rcases hp with rfl | rfl | rfl
  ·refine GW ?_
   refine KGO ?_
   refine RunV.of (bs1Ac (h0, newA) _) ?_
   have ku1 : Kp (wB.drew) ((wB.drew).alloc (.cells (List.toArray (accCp (h0, newA))) 36)) n_ := (Kp.refl _ _).alloc _
   have row := zci (B := wB.heap.size) (e := 36) (s := 8) (wB.drew) (accCp (h0, newA)) 1 (kd).size (by decide) rfl
   generalize (wB.drew).alloc (.cells (List.toArray (accCp (h0, newA))) 36) = u1 at ku1 row ⊢
   generalize (wB.drew).heap.size = gs at row ⊢
   have J1 := (kd).trans0 ku1
   refine ⟨J1, ?_⟩
   refine KGO ?_
   refine ⟨rfl, ?_⟩
   refine TreeS.node [(5, [2, 3, 4, 5], [7, 8], [6]), (7, [7], [5, 8], [2, 3, 4, 6])] (by decide +kernel) ?_
   intro p hp
   simp only [List.mem_cons, List.not_mem_nil, or_false] at hp
   rcases hp with rfl | rfl
   ·refine GW ?_
    refine KGO ?_
    refine CallS.of (Tryz.call12 _ _) (zcJ 0 kept (by decide)) ?_
    rintro e u2 (⟨hbad, _⟩ | ⟨_, rfl, hbk, ku2⟩)
    ·omega
    have hnb : wB.heap.size ≤ (u1).heap.size := (J1).size
    have hbk : BkAt u2 wB.heap.size (u1).heap.size ⟨none, 0, 0⟩ [] ⟨0, kept, []⟩ := ⟨hbk.var, World.ownsRow_nil _ _ _ _, hbk.hl, fun i hi => absurd hi (Nat.not_lt_zero i), hbk.good⟩
    generalize (u1).heap.size = nb at hbk hnb ⊢
    refine RT ?_
    have J2 := (J1).trans0 ku2
    have row := zab row ku2
    refine ⟨J2, ?_⟩
    refine KGO ?_
    refine ⟨rfl, ?_⟩
    refine TreeS.node [(7, [7], [8], [6])] (by decide +kernel) ?_
    intro p hp
    simp only [List.mem_cons, List.not_mem_nil, or_false] at hp
    rcases hp with rfl
    ·refine GW ?_
     refine KGO ?_
     obtain ⟨a_b7, v_b7, k_u3, z_u3, r_u3⟩ := new5 u2 28 ([.slice none 0 0, .pointer none])
     generalize u2.alloc (.cells (List.toArray ([.slice none 0 0, .pointer none])) 28) = u3 at *
     generalize hs_b7 : u2.heap.size = b7 at *
     have ku3 := k_u3
     have hb7 : wB.heap.size ≤ b7 := by have := (J2).size; omega
     have v7 := v_b7
     clear a_b7 v_b7
     have J3 := (J2).trans0 ku3
     have row := zab row ku3
     have hbk := hbk.keep0 ku3
     refine ⟨J3, ?_⟩
     refine KGO ?_
     refine ⟨rfl, ?_⟩
     refine TreeS.node [(8, [6, 8], [], [])] (by decide +kernel) ?_
     intro p hp
     simp only [List.mem_cons, List.not_mem_nil, or_false] at hp
     rcases hp with rfl
     ·refine GW ?_
      refine KGO ?_
      refine RunV.of (zbJ ⟨some ⟨gs, 0, none⟩, 1, 1⟩ (some ⟨nb, 0, none⟩) _) ?_
      refine KGO ?_
      refine Store.varK [.slice (some ⟨gs, 0, none⟩) 1 1, .pointer (some ⟨nb, 0, none⟩)] v7 (by rfl) rfl (zam (by rfl)) fun u4 v8 k8 => ?_
      have J4 : Kp wB u4 n_ := zan J3 k8 hb7
      have row4 := zad row k8 (fun q hq e => by have e : q = b7 := e; subst e; exact zae row v7 (by decide) hq)
      have hbk4 := hbk.keep k8 (fun q e => by have e : q = b7 := e; subst e; exact v7.foreign (by decide) (by decide) (by decide))
      refine ⟨J4, ?_⟩
      refine KGO ?_
      refine ⟨rfl, ?_⟩
      refine TreeS.leaf ?_
      refine KGO ?_
      exact ⟨(b7, gs, nb), ⟨rfl, rfl, rfl, rfl, trivial⟩, J4, v8, row4, hbk4, hb7, hnb⟩
   ·refine GW ?_
    refine KGO ?_
    obtain ⟨a_b7, v_b7, k_u2, z_u2, r_u2⟩ := new5 u1 28 ([.slice none 0 0, .pointer none])
    generalize u1.alloc (.cells (List.toArray ([.slice none 0 0, .pointer none])) 28) = u2 at *
    generalize hs_b7 : u1.heap.size = b7 at *
    have ku2 := k_u2
    have hb7 : wB.heap.size ≤ b7 := by have := (J1).size; omega
    have v7 := v_b7
    clear a_b7 v_b7
    have J2 := (J1).trans0 ku2
    have row := zab row ku2
    refine ⟨J2, ?_⟩
    refine KGO ?_
    refine ⟨rfl, ?_⟩
    refine TreeS.node [(5, [2, 3, 4, 5], [8], [6])] (by decide +kernel) ?_
    intro p hp
    simp only [List.mem_cons, List.not_mem_nil, or_false] at hp
    rcases hp with rfl
    ·refine GW ?_
     refine KGO ?_
     refine CallS.of (Tryz.call12 _ _) (zcJ 0 kept (by decide)) ?_
     rintro e u3 (⟨hbad, _⟩ | ⟨_, rfl, hbk, ku3⟩)
     ·omega
     have hnb : wB.heap.size ≤ (u2).heap.size := (J2).size
     have hbk : BkAt u3 wB.heap.size (u2).heap.size ⟨none, 0, 0⟩ [] ⟨0, kept, []⟩ := ⟨hbk.var, World.ownsRow_nil _ _ _ _, hbk.hl, fun i hi => absurd hi (Nat.not_lt_zero i), hbk.good⟩
     generalize (u2).heap.size = nb at hbk hnb ⊢
     refine RT ?_
     have J3 := (J2).trans0 ku3
     have row := zab row ku3
     have v7 := v7.keep0 ku3
     refine ⟨J3, ?_⟩
     refine KGO ?_
     refine ⟨rfl, ?_⟩
     refine TreeS.node [(8, [6, 8], [], [])] (by decide +kernel) ?_
     intro p hp
     simp only [List.mem_cons, List.not_mem_nil, or_false] at hp
     rcases hp with rfl
     ·refine GW ?_
      refine KGO ?_
      refine RunV.of (zbJ ⟨some ⟨gs, 0, none⟩, 1, 1⟩ (some ⟨nb, 0, none⟩) _) ?_
      refine KGO ?_
      refine Store.varK [.slice (some ⟨gs, 0, none⟩) 1 1, .pointer (some ⟨nb, 0, none⟩)] v7 (by rfl) rfl (zam (by rfl)) fun u4 v8 k8 => ?_
      have J4 : Kp wB u4 n_ := zan J3 k8 hb7
      have row4 := zad row k8 (fun q hq e => by have e : q = b7 := e; subst e; exact zae row v7 (by decide) hq)
      have hbk4 := hbk.keep k8 (fun q e => by have e : q = b7 := e; subst e; exact v7.foreign (by decide) (by decide) (by decide))
      refine ⟨J4, ?_⟩
      refine KGO ?_
      refine ⟨rfl, ?_⟩
      refine TreeS.leaf ?_
      refine KGO ?_
      exact ⟨(b7, gs, nb), ⟨rfl, rfl, rfl, rfl, trivial⟩, J4, v8, row4, hbk4, hb7, hnb⟩
  ·refine GW ?_
   refine KGO ?_
   refine CallS.of (Tryz.call12 _ _) (zcJ 0 kept (by decide)) ?_
   rintro e u1 (⟨hbad, _⟩ | ⟨_, rfl, hbk, ku1⟩)
   ·omega
   have hnb : wB.heap.size ≤ (wB.drew).heap.size := (kd).size
   have hbk : BkAt u1 wB.heap.size (wB.drew).heap.size ⟨none, 0, 0⟩ [] ⟨0, kept, []⟩ := ⟨hbk.var, World.ownsRow_nil _ _ _ _, hbk.hl, fun i hi => absurd hi (Nat.not_lt_zero i), hbk.good⟩
   generalize (wB.drew).heap.size = nb at hbk hnb ⊢
   refine RT ?_
   have J1 := (kd).trans0 ku1
   refine ⟨J1, ?_⟩
   refine KGO ?_
   refine ⟨rfl, ?_⟩
   refine TreeS.node [(1, [0, 1], [7, 8], [6]), (7, [7], [1, 8], [0, 6])] (by decide +kernel) ?_
   intro p hp
   simp only [List.mem_cons, List.not_mem_nil, or_false] at hp
   rcases hp with rfl | rfl
   ·refine GW ?_
    refine KGO ?_
    refine RunV.of (bs1Ac (h0, newA) _) ?_
    have ku2 : Kp (u1) ((u1).alloc (.cells (List.toArray (accCp (h0, newA))) 36)) n_ := (Kp.refl _ _).alloc _
    have row := zci (B := wB.heap.size) (e := 36) (s := 8) (u1) (accCp (h0, newA)) 1 (J1).size (by decide) rfl
    generalize (u1).alloc (.cells (List.toArray (accCp (h0, newA))) 36) = u2 at ku2 row ⊢
    generalize (u1).heap.size = gs at row ⊢
    have J2 := (J1).trans0 ku2
    have hbk := hbk.keep0 ku2
    refine ⟨J2, ?_⟩
    refine KGO ?_
    refine ⟨rfl, ?_⟩
    refine TreeS.node [(7, [7], [8], [6])] (by decide +kernel) ?_
    intro p hp
    simp only [List.mem_cons, List.not_mem_nil, or_false] at hp
    rcases hp with rfl
    ·refine GW ?_
     refine KGO ?_
     obtain ⟨a_b7, v_b7, k_u3, z_u3, r_u3⟩ := new5 u2 28 ([.slice none 0 0, .pointer none])
     generalize u2.alloc (.cells (List.toArray ([.slice none 0 0, .pointer none])) 28) = u3 at *
     generalize hs_b7 : u2.heap.size = b7 at *
     have ku3 := k_u3
     have hb7 : wB.heap.size ≤ b7 := by have := (J2).size; omega
     have v7 := v_b7
     clear a_b7 v_b7
     have J3 := (J2).trans0 ku3
     have hbk := hbk.keep0 ku3
     have row := zab row ku3
     refine ⟨J3, ?_⟩
     refine KGO ?_
     refine ⟨rfl, ?_⟩
     refine TreeS.node [(8, [6, 8], [], [])] (by decide +kernel) ?_
     intro p hp
     simp only [List.mem_cons, List.not_mem_nil, or_false] at hp
     rcases hp with rfl
     ·refine GW ?_
      refine KGO ?_
      refine RunV.of (zbJ ⟨some ⟨gs, 0, none⟩, 1, 1⟩ (some ⟨nb, 0, none⟩) _) ?_
      refine KGO ?_
      refine Store.varK [.slice (some ⟨gs, 0, none⟩) 1 1, .pointer (some ⟨nb, 0, none⟩)] v7 (by rfl) rfl (zam (by rfl)) fun u4 v8 k8 => ?_
      have J4 : Kp wB u4 n_ := zan J3 k8 hb7
      have row4 := zad row k8 (fun q hq e => by have e : q = b7 := e; subst e; exact zae row v7 (by decide) hq)
      have hbk4 := hbk.keep k8 (fun q e => by have e : q = b7 := e; subst e; exact v7.foreign (by decide) (by decide) (by decide))
      refine ⟨J4, ?_⟩
      refine KGO ?_
      refine ⟨rfl, ?_⟩
      refine TreeS.leaf ?_
      refine KGO ?_
      exact ⟨(b7, gs, nb), ⟨rfl, rfl, rfl, rfl, trivial⟩, J4, v8, row4, hbk4, hb7, hnb⟩
   ·refine GW ?_
    refine KGO ?_
    obtain ⟨a_b7, v_b7, k_u2, z_u2, r_u2⟩ := new5 u1 28 ([.slice none 0 0, .pointer none])
    generalize u1.alloc (.cells (List.toArray ([.slice none 0 0, .pointer none])) 28) = u2 at *
    generalize hs_b7 : u1.heap.size = b7 at *
    have ku2 := k_u2
    have hb7 : wB.heap.size ≤ b7 := by have := (J1).size; omega
    have v7 := v_b7
    clear a_b7 v_b7
    have J2 := (J1).trans0 ku2
    have hbk := hbk.keep0 ku2
    refine ⟨J2, ?_⟩
    refine KGO ?_
    refine ⟨rfl, ?_⟩
    refine TreeS.node [(1, [0, 1], [8], [6])] (by decide +kernel) ?_
    intro p hp
    simp only [List.mem_cons, List.not_mem_nil, or_false] at hp
    rcases hp with rfl
    ·refine GW ?_
     refine KGO ?_
     refine RunV.of (bs1Ac (h0, newA) _) ?_
     have ku3 : Kp (u2) ((u2).alloc (.cells (List.toArray (accCp (h0, newA))) 36)) n_ := (Kp.refl _ _).alloc _
     have row := zci (B := wB.heap.size) (e := 36) (s := 8) (u2) (accCp (h0, newA)) 1 (J2).size (by decide) rfl
     generalize (u2).alloc (.cells (List.toArray (accCp (h0, newA))) 36) = u3 at ku3 row ⊢
     generalize (u2).heap.size = gs at row ⊢
     have J3 := (J2).trans0 ku3
     have hbk := hbk.keep0 ku3
     have v7 := v7.keep0 ku3
     refine ⟨J3, ?_⟩
     refine KGO ?_
     refine ⟨rfl, ?_⟩
     refine TreeS.node [(8, [6, 8], [], [])] (by decide +kernel) ?_
     intro p hp
     simp only [List.mem_cons, List.not_mem_nil, or_false] at hp
     rcases hp with rfl
     ·refine GW ?_
      refine KGO ?_
      refine RunV.of (zbJ ⟨some ⟨gs, 0, none⟩, 1, 1⟩ (some ⟨nb, 0, none⟩) _) ?_
      refine KGO ?_
      refine Store.varK [.slice (some ⟨gs, 0, none⟩) 1 1, .pointer (some ⟨nb, 0, none⟩)] v7 (by rfl) rfl (zam (by rfl)) fun u4 v8 k8 => ?_
      have J4 : Kp wB u4 n_ := zan J3 k8 hb7
      have row4 := zad row k8 (fun q hq e => by have e : q = b7 := e; subst e; exact zae row v7 (by decide) hq)
      have hbk4 := hbk.keep k8 (fun q e => by have e : q = b7 := e; subst e; exact v7.foreign (by decide) (by decide) (by decide))
      refine ⟨J4, ?_⟩
      refine KGO ?_
      refine ⟨rfl, ?_⟩
      refine TreeS.leaf ?_
      refine KGO ?_
      exact ⟨(b7, gs, nb), ⟨rfl, rfl, rfl, rfl, trivial⟩, J4, v8, row4, hbk4, hb7, hnb⟩
  ·refine GW ?_
   refine KGO ?_
   obtain ⟨a_b7, v_b7, k_u1, z_u1, r_u1⟩ := new5 wB.drew 28 ([.slice none 0 0, .pointer none])
   generalize wB.drew.alloc (.cells (List.toArray ([.slice none 0 0, .pointer none])) 28) = u1 at *
   generalize hs_b7 : wB.drew.heap.size = b7 at *
   have ku1 := k_u1
   have hb7 : wB.heap.size ≤ b7 := by have := (kd).size; omega
   have v7 := v_b7
   clear a_b7 v_b7
   have J1 := (kd).trans0 ku1
   refine ⟨J1, ?_⟩
   refine KGO ?_
   refine ⟨rfl, ?_⟩
   refine TreeS.node [(1, [0, 1], [5, 8], [2, 3, 4, 6]), (5, [2, 3, 4, 5], [1, 8], [0, 6])] (by decide +kernel) ?_
   intro p hp
   simp only [List.mem_cons, List.not_mem_nil, or_false] at hp
   rcases hp with rfl | rfl
   ·refine GW ?_
    refine KGO ?_
    refine RunV.of (bs1Ac (h0, newA) _) ?_
    have ku2 : Kp (u1) ((u1).alloc (.cells (List.toArray (accCp (h0, newA))) 36)) n_ := (Kp.refl _ _).alloc _
    have row := zci (B := wB.heap.size) (e := 36) (s := 8) (u1) (accCp (h0, newA)) 1 (J1).size (by decide) rfl
    generalize (u1).alloc (.cells (List.toArray (accCp (h0, newA))) 36) = u2 at ku2 row ⊢
    generalize (u1).heap.size = gs at row ⊢
    have J2 := (J1).trans0 ku2
    have v7 := v7.keep0 ku2
    refine ⟨J2, ?_⟩
    refine KGO ?_
    refine ⟨rfl, ?_⟩
    refine TreeS.node [(5, [2, 3, 4, 5], [8], [6])] (by decide +kernel) ?_
    intro p hp
    simp only [List.mem_cons, List.not_mem_nil, or_false] at hp
    rcases hp with rfl
    ·refine GW ?_
     refine KGO ?_
     refine CallS.of (Tryz.call12 _ _) (zcJ 0 kept (by decide)) ?_
     rintro e u3 (⟨hbad, _⟩ | ⟨_, rfl, hbk, ku3⟩)
     ·omega
     have hnb : wB.heap.size ≤ (u2).heap.size := (J2).size
     have hbk : BkAt u3 wB.heap.size (u2).heap.size ⟨none, 0, 0⟩ [] ⟨0, kept, []⟩ := ⟨hbk.var, World.ownsRow_nil _ _ _ _, hbk.hl, fun i hi => absurd hi (Nat.not_lt_zero i), hbk.good⟩
     generalize (u2).heap.size = nb at hbk hnb ⊢
     refine RT ?_
     have J3 := (J2).trans0 ku3
     have v7 := v7.keep0 ku3
     have row := zab row ku3
     refine ⟨J3, ?_⟩
     refine KGO ?_
     refine ⟨rfl, ?_⟩
     refine TreeS.node [(8, [6, 8], [], [])] (by decide +kernel) ?_
     intro p hp
     simp only [List.mem_cons, List.not_mem_nil, or_false] at hp
     rcases hp with rfl
     ·refine GW ?_
      refine KGO ?_
      refine RunV.of (zbJ ⟨some ⟨gs, 0, none⟩, 1, 1⟩ (some ⟨nb, 0, none⟩) _) ?_
      refine KGO ?_
      refine Store.varK [.slice (some ⟨gs, 0, none⟩) 1 1, .pointer (some ⟨nb, 0, none⟩)] v7 (by rfl) rfl (zam (by rfl)) fun u4 v8 k8 => ?_
      have J4 : Kp wB u4 n_ := zan J3 k8 hb7
      have row4 := zad row k8 (fun q hq e => by have e : q = b7 := e; subst e; exact zae row v7 (by decide) hq)
      have hbk4 := hbk.keep k8 (fun q e => by have e : q = b7 := e; subst e; exact v7.foreign (by decide) (by decide) (by decide))
      refine ⟨J4, ?_⟩
      refine KGO ?_
      refine ⟨rfl, ?_⟩
      refine TreeS.leaf ?_
      refine KGO ?_
      exact ⟨(b7, gs, nb), ⟨rfl, rfl, rfl, rfl, trivial⟩, J4, v8, row4, hbk4, hb7, hnb⟩
   ·refine GW ?_
    refine KGO ?_
    refine CallS.of (Tryz.call12 _ _) (zcJ 0 kept (by decide)) ?_
    rintro e u2 (⟨hbad, _⟩ | ⟨_, rfl, hbk, ku2⟩)
    ·omega
    have hnb : wB.heap.size ≤ (u1).heap.size := (J1).size
    have hbk : BkAt u2 wB.heap.size (u1).heap.size ⟨none, 0, 0⟩ [] ⟨0, kept, []⟩ := ⟨hbk.var, World.ownsRow_nil _ _ _ _, hbk.hl, fun i hi => absurd hi (Nat.not_lt_zero i), hbk.good⟩
    generalize (u1).heap.size = nb at hbk hnb ⊢
    refine RT ?_
    have J2 := (J1).trans0 ku2
    have v7 := v7.keep0 ku2
    refine ⟨J2, ?_⟩
    refine KGO ?_
    refine ⟨rfl, ?_⟩
    refine TreeS.node [(1, [0, 1], [8], [6])] (by decide +kernel) ?_
    intro p hp
    simp only [List.mem_cons, List.not_mem_nil, or_false] at hp
    rcases hp with rfl
    ·refine GW ?_
     refine KGO ?_
     refine RunV.of (bs1Ac (h0, newA) _) ?_
     have ku3 : Kp (u2) ((u2).alloc (.cells (List.toArray (accCp (h0, newA))) 36)) n_ := (Kp.refl _ _).alloc _
     have row := zci (B := wB.heap.size) (e := 36) (s := 8) (u2) (accCp (h0, newA)) 1 (J2).size (by decide) rfl
     generalize (u2).alloc (.cells (List.toArray (accCp (h0, newA))) 36) = u3 at ku3 row ⊢
     generalize (u2).heap.size = gs at row ⊢
     have J3 := (J2).trans0 ku3
     have v7 := v7.keep0 ku3
     have hbk := hbk.keep0 ku3
     refine ⟨J3, ?_⟩
     refine KGO ?_
     refine ⟨rfl, ?_⟩
     refine TreeS.node [(8, [6, 8], [], [])] (by decide +kernel) ?_
     intro p hp
     simp only [List.mem_cons, List.not_mem_nil, or_false] at hp
     rcases hp with rfl
     ·refine GW ?_
      refine KGO ?_
      refine RunV.of (zbJ ⟨some ⟨gs, 0, none⟩, 1, 1⟩ (some ⟨nb, 0, none⟩) _) ?_
      refine KGO ?_
      refine Store.varK [.slice (some ⟨gs, 0, none⟩) 1 1, .pointer (some ⟨nb, 0, none⟩)] v7 (by rfl) rfl (zam (by rfl)) fun u4 v8 k8 => ?_
      have J4 : Kp wB u4 n_ := zan J3 k8 hb7
      have row4 := zad row k8 (fun q hq e => by have e : q = b7 := e; subst e; exact zae row v7 (by decide) hq)
      have hbk4 := hbk.keep k8 (fun q e => by have e : q = b7 := e; subst e; exact v7.foreign (by decide) (by decide) (by decide))
      refine ⟨J4, ?_⟩
      refine KGO ?_
      refine ⟨rfl, ?_⟩
      refine TreeS.leaf ?_
      refine KGO ?_
      exact ⟨(b7, gs, nb), ⟨rfl, rfl, rfl, rfl, trivial⟩, J4, v8, row4, hbk4, hb7, hnb⟩
 rintro ⟨b7, gs, nb⟩ g5 w5 ⟨K5, v7, row, hbk, hb7, hnb⟩
 dsimp only at v7 row hbk hb7 hnb ⊢
 have v40 := v4
 have v6 := v6.keep0 K5
 have st0 := st0.keep K5
 have a7 := v7.at
 have q5 := Kp.refl w5 n_
 have z5 := K5.size
 clear v4
 refine KGO ?_
 refine Loop.intro (ι := StB) (fun p => [(0, .slice a lv.length cap), (4, .pointer (some ⟨b4, 0, none⟩)), (6, .pointer (some ⟨b6, 0, none⟩)), (7, .pointer (some ⟨b7, 0, none⟩)), (8, .int .i64 (p.i : Nat))])
  (fun p wr => Kp wB wr (one_ b6) ∧ p.i ≤ lv.length ∧ HistAt wr wB.heap.size wB.heap.size p.s nb kept p.H ∧ VarK wr b7 28 [.slice p.s.a p.s.n p.s.c, .pointer (some ⟨nb, 0, none⟩)] ∧ VarK wr b6 36 (accC p.h p.A) ∧ StabA wr p.h p.A ∧ (accs p.H).getD (p.H.length - 1) default = p.A ∧ accs p.H = histA (l.take p.i) ∧ 0 < p.H.length ∧ p.H.length ≤ p.i + 1) (fun p => lv.length - p.i)
  ⟨0, [(h0, newA)], ⟨some ⟨gs, 0, none⟩, 1, 1⟩, h0, newA⟩ ⟨rfl, rfl, rfl, rfl, rfl, trivial⟩ ⟨K5.mono fun _ _ e => e.elim, Nat.zero_le _, ⟨by simpa using row, ⟨_, _, hbk⟩, fun p hp => by rw [List.mem_singleton.1 hp]; exact st0, ⟨by simp, fun t h => by have : t = 0 := (by simpa using h); subst this; exact zgB, fun t h => by simp at h⟩, rfl⟩, v7, v6, st0, rfl, by simp [histA], by simp, by simp⟩ ?_
 clear row hbk v7 v6 st0 a7 q5 z5 K5
 rintro ⟨i, H, s, h, A⟩ gg wr ⟨hK1, hi, hH, v7, v6, stA, hlast, hacc, hH0, hHl⟩
 dsimp only at hi hH v7 v6 stA hlast hacc hH0 hHl ⊢
 have hK : Kp w wr n_ := K3.trans hK1 fun q hq e => by have e : q = b6 := e; omega
 have v4 := v40.keep hK1 (fun e => by have e : b4 = b6 := e; omega)
 have zB := hK1.size
 have a7 := v7.at
 refine GW ?_
 by_cases hlt : i < lv.length
 rotate_left
 ·refine KGO ?_
  refine Store.varK [.slice s.a s.n s.c, .pointer (some ⟨nb, 0, none⟩)] v4 (by rfl) rfl (zam (by rfl)) fun wf vf kf => ?_
  have hH := hH.stepH v4 kf
  have af := vf.at
  refine KGO ?_
  refine GW ?_
  obtain ⟨vb, hsb, bkf⟩ := hH.book
  have hnl := bkf.var.lt
  exact ⟨s, nb, H, rfl, hH.base (by omega), by rw [hacc, List.take_of_length_le (by omega)], by omega, hnl, by omega, zan hK kf (by omega)⟩
 obtain ⟨gb, o, rfl, hgb, hat⟩ := hr (by omega)
 have hat := zaf hat hK
 have kr := Kp.refl wr n_
 have hO := hop lv[i] (List.getElem_mem hlt)
 have hfo := hf lv[i].2 (by rw [← hlv]; exact List.mem_map_of_mem (List.getElem_mem hlt))
 have haA := v6.at
 have hal : (accs H).length = H.length := List.length_map _
 have hAg : A = (accs H)[H.length - 1]'(by omega) := by rw [← hlast, zaI]
 have gA : GoodP A := by rw [hAg]; exact hH.chain.good _ _
 have hli : l[i]'(by omega) = lv[i].2 := by simp only [← hlv, List.getElem_map]
 have hw1 : histA (l.take (i + 1)) = if (applyA A lv[i].2).2.2 = 0 then accs H ++ [(applyA A lv[i].2).1] else accs H := by
  rw [List.take_succ_eq_append_getElem (by omega), zmY, ← hacc, hli]
  unfold histW
  rw [hal, hlast]
 refine KGO ?_
 have fA := fitZ gA
 have hAt : A.st ≤ 1099511627776 := by have := gA.top; unfold M40 at this; omega
 have hopat : At wr gb (o + i * 45) (opC lv[i].1 lv[i].2) := zbC (enc := opC') hat (fun _ => rfl) hlt
 refine Draw.cut (ι := Nat × Hd) (fun p => [(0, .slice (some ⟨gb, o, none⟩) lv.length cap), (4, .pointer (some ⟨b4, 0, none⟩)), (6, .pointer (some ⟨b6, 0, none⟩)), (7, .pointer (some ⟨b7, 0, none⟩)), (8, .int .i64 (i : Nat)), (9, .pointer (some ⟨p.1, 0, none⟩)), (10, .int .i64 (applyA A lv[i].2).2.1), (11, .int .i64 ((applyA A lv[i].2).2.2 : Nat))]) (fun p u => Kp wr u n_ ∧ VarK u p.1 36 (accC p.2 (applyA A lv[i].2).1) ∧ StabA u p.2 (applyA A lv[i].2).1 ∧ wr.heap.size ≤ p.1) ?_ ?_
 ·have kd : Kp wr wr.drew n_ := (Kp.refl wr n_).drew
  refine Draw.ways (fun u => Kp wr u n_) (fun _ => true) [[0, 1, 2, 3, 4, 5, 6, 7, 8, 9, 10, 11, 12, 13], [0, 1, 2, 3, 4, 10, 5, 6, 7, 8, 9, 11, 12, 13]] (by decide +kernel) kd ?_
  intro L' hL'
  simp only [List.mem_cons, List.not_mem_nil, or_false] at hL'
  rcases hL' with rfl | rfl
  ·refine KGO ?_
   refine HeldW (by rfl) (by rfl) hopat (fun _ hu => hu) (by rfl) ?_
   refine KGO ?_
   refine CallS.of (Tryz.call23 _ _) (zjs (w := wr.drew) (stA.keep kd).read fA hAt gA.sasc (hO.keep (hK.trans0 kd)) hfo (hE.keep (hK.trans0 kd))) ?_
   rintro e w5 ⟨h', rfl, st', k5⟩
   have J5 : Kp wr w5 n_ := kd.trans0 k5
   refine RT ?_
   refine ⟨J5, ?_⟩
   refine KGO ?_
   obtain ⟨a_b6, v_b6, k_w6, z_w6, r_w6⟩ := new5 w5 36 (zAcc')
   generalize w5.alloc (.cells (List.toArray (zAcc')) 36) = w6 at *
   generalize hs_b6 : w5.heap.size = b6 at *
   have J6 := J5.trans0 k_w6
   have z5 := J5.size
   refine ⟨J6, ?_⟩
   refine KGO ?_
   refine SVK (accC h' (applyA A lv[i].2).1) v_b6 fun w7 v7 k7 => ?_
   have J7 : Kp wr w7 n_ := zan J6 k7 (by omega)
   have st7 := (st'.keep k_w6).step v_b6 k7
   refine ⟨J7, ?_⟩
   refine KGO ?_
   exact ⟨(b6, h'), ⟨rfl, rfl, rfl, rfl, rfl, rfl, rfl, rfl, trivial⟩, J7, v7, st7, by dsimp only; omega⟩
  ·refine KGO ?_
   refine HeldW (by rfl) (by rfl) hopat (fun _ hu => hu) (by rfl) ?_
   refine KGO ?_
   obtain ⟨a_b6, v_b6, k_w6, z_w6, r_w6⟩ := new5 wr.drew 36 (zAcc')
   generalize wr.drew.alloc (.cells (List.toArray (zAcc')) 36) = w6 at *
   generalize hs_b6 : wr.drew.heap.size = b6 at *
   have J6 : Kp wr w6 n_ := kd.trans0 k_w6
   have z5 := kd.size
   refine ⟨J6, ?_⟩
   refine KGO ?_
   refine CallS.of (Tryz.call23 _ _) (zjs (w := w6) (stA.keep J6).read fA hAt gA.sasc (hO.keep (hK.trans0 J6)) hfo (hE.keep (hK.trans0 J6))) ?_
   rintro e w5 ⟨h', rfl, st', k5⟩
   have J5 : Kp wr w5 n_ := J6.trans0 k5
   have v6 := v_b6.keep0 k5
   refine RT ?_
   refine ⟨J5, ?_⟩
   refine KGO ?_
   refine SVK (accC h' (applyA A lv[i].2).1) v6 fun w7 v7 k7 => ?_
   have J7 : Kp wr w7 n_ := zan J5 k7 (by omega)
   have st7 := st'.step v6 k7
   refine ⟨J7, ?_⟩
   refine KGO ?_
   exact ⟨(b6, h'), ⟨rfl, rfl, rfl, rfl, rfl, rfl, rfl, rfl, trivial⟩, J7, v7, st7, by dsimp only; omega⟩
 rintro ⟨b9, h'⟩ g9 w9 ⟨K9, v9, st9, hb9⟩
 dsimp only at v9 st9 hb9 ⊢
 have gB := zks gA lv[i].2
 have hstep := @zkC A lv[i].2 gA
 have hAt := gA.top
 have hA0 := gA.st
 have hBt := gB.top
 have hB0 := gB.st
 unfold M40 at hAt hBt
 clear haA kr
 generalize (applyA A lv[i].2).1 = B at *
 generalize (applyA A lv[i].2).2.1 = n at *
 generalize (applyA A lv[i].2).2.2 = e at *
 have hK9 := hK.trans0 K9
 have hK19 := hK1.trans0 K9
 have hH := hH.keep0 K9
 have v7 := v7.keep0 K9
 have v6 := v6.keep0 K9
 have stA := stA.keep K9
 have a7 := v7.at
 have a6 := v6.at
 have a9 := v9.at
 refine GW ?_
 by_cases he : e = 0
 rotate_left
 ·refine KGO ?_
  exact ⟨⟨i + 1, H, s, h, A⟩, ⟨rfl, rfl, rfl, rfl, v_int (by simp), trivial⟩, ⟨hK19, by dsimp only; omega, hH, v7, v6, stA, hlast, by dsimp only; rw [hw1, if_neg he], hH0, by dsimp only; omega⟩, by dsimp only; omega⟩
 subst he
 have hstep := hstep rfl
 rw [if_pos rfl] at hw1
 refine KGO ?_
 have kd : Kp w9 w9.drew n_ := (Kp.refl w9 n_).drew
 refine Draw.heldTail 7 (fun u => Kp w9 u n_) (fun _ => true) (by decide +kernel) (by decide +kernel) kd ?_
 refine GW ?_
 refine KGO ?_
 refine CallS.of (Tryz.call14 _ _) (cx_Of (w := w9.drew) (stA.keep kd).read (st9.keep kd).read stA.1 st9.1 gA gB) ?_
 rintro e1 w10 ⟨vc, rfl, oc, k10⟩
 have J10 : Kp w9 w10 n_ := kd.trans0 k10
 have hrowc := zak oc rfl
 obtain ⟨ac, cc, rfl⟩ := zac oc
 have hcn := hH.chain
 have hms : ∀ t (ht : t < (accs H).length), ((accs H)[t]).mails.length ≤ 40 := fun t ht => by
  have := zbu hcn (by have := hH.zero; rw [zaI hcn.ne] at this; exact this) t ht
  omega
 have hmA : A.mails.length ≤ 40 := by rw [hAg]; exact hms _ _
 have hmB : B.mails.length ≤ 41 := by have := hstep.len; omega
 have hcl : (chgOf A B).length ≤ 1000 := by
  have := @zio A B
  have := gA.bx.len
  have := gB.bx.len
  omega
 have hstA : StepA ((accs H)[(accs H).length - 1]'(by omega)) B := by
  have : (accs H)[(accs H).length - 1]'(by omega) = A := by rw [hAg]; simp only [hal]
  rw [this]; exact hstep
 have hbn : noteA (bookA kept (accs H)) B.st (chgOf A B) = (0, bookA kept (accs H ++ [B])) := by
  have e : (accs H)[(accs H).length - 1]'(by omega) = A := by rw [hAg]; simp only [hal]
  have := zhx (kept := kept) hcn gB hstA hk1 (by rw [e]; omega)
  rw [e] at this
  exact this
 refine RT ?_
 refine ⟨J10, ?_⟩
 refine KGO ?_
 have hH10 := hH.keep0 J10
 obtain ⟨vb, hsb, bk⟩ := hH10.book
 have zB10 : wB.heap.size ≤ w10.heap.size := (hK19.trans0 J10).size
 have hcall := zcg (vl := ⟨ac, (chgOf A B).length, cc⟩) bk zB10 B.st (by omega) (by omega) (chgOf A B) hrowc (by omega)
 rw [hbn] at hcall
 refine CallS.of (Tryz.call13 _ _) hcall ?_
 rintro e2 w11 ⟨rfl, ⟨vb', hsb', bk11⟩, k11⟩
 dsimp only at bk11 ⊢
 have v4' : ¬ (b4 = nb ∨ vb.v.ownBlock = some b4) := zeA bk (v4.keep0 (K9.trans0 J10)) (by decide) (by decide)
 have row11 := zmE hH10.own bk k11
 have v7 := (v7.keep0 J10).keep k11 (zeA bk (v7.keep0 J10) (by decide) (by decide))
 have v6 := (v6.keep0 J10).keep k11 (zeA bk (v6.keep0 J10) (by decide) (by decide))
 have v9 := (v9.keep0 J10).keep k11 (zeA bk (v9.keep0 J10) (by decide) (by decide))
 have st11 : ∀ p ∈ H, StabA w11 p.1 p.2 := fun p hp => (hH10.stab p hp).note bk k11
 have st9 := (st9.keep J10).note bk k11
 have hK11 : Kp wB w11 (one_ b6) := (hK19.trans0 J10).trans k11 fun q hq e => by
  exfalso
  rcases e with rfl | e
  ·omega
  ·have := (bk.own.lt q e).1; omega
 have a7 := v7.at
 have a6 := v6.at
 have a9 := v9.at
 clear bk k11 oc k10 J10 hrowc hcall stA
 refine RT ?_
 refine KGO ?_
 refine SVK (accC h' B) v6 fun w12 v6' k12 => ?_
 have hb6o : ∀ q, s.v.ownBlock = some q → ¬ one_ b6 q := fun q hq e => by have e : q = b6 := e; have := (row11.lt q hq).1; omega
 have row12 := zad row11 k12 hb6o
 have bk12 := bk11.keep k12 (fun q e => by have e : q = b6 := e; subst e; exact v6.foreign (by decide) (by decide) (by decide))
 have st12 : ∀ p ∈ H, StabA w12 p.1 p.2 := fun p hp => (st11 p hp).step v6 k12
 have st9 := st9.step v6 k12
 have v7 := v7.keep k12 (fun e => by have e : b7 = b6 := e; omega)
 have hK12 : Kp wB w12 (one_ b6) := hK11.trans' k12
 have a7 := v7.at
 have a6 := v6'.at
 clear a9 v6 row11 bk11 st11 v9
 refine KGO ?_
 refine RunV.of (bs1Ac (h', B) _) ?_
 have k13 : Kp w12 (w12.alloc (.cells (List.toArray (accCp (h', B))) 36)) n_ := (Kp.refl _ _).alloc _
 have hx := zaq w12 36 (accCp (h', B))
 generalize w12.alloc (.cells (List.toArray (accCp (h', B))) 36) = w13 at k13 hx ⊢
 generalize w12.heap.size = gs3 at hx ⊢
 refine KGO ?_
 have row13 := zab row12 k13
 have v7 := v7.keep0 k13
 have v6 := v6'.keep0 k13
 refine tyAc.app1 (h', B) row13 (hK12.trans0 k13).size hx (by omega) (by omega) fun v14 w14 o14 k14 => ?_
 have v7 := v7.keep k14 (fun e => zae row13 v7 (by decide) e)
 have v6 := v6.keep k14 (fun e => hb6o _ e rfl)
 have bk14 := (bk12.keep0 k13).keep k14 (fun q e => by obtain ⟨cs, hc⟩ := zby row13 e; exact hc.foreign (by decide) (by decide) (by decide))
 have st14 : ∀ p ∈ H, StabA w14 p.1 p.2 := fun p hp => ((st12 p hp).keep k13).of (k14.mono fun q _ e => by obtain ⟨cs, hc⟩ := zby row13 e; exact ⟨cs, _, hc, by decide⟩)
 have st9 := (st9.keep k13).of (k14.mono fun q _ e => by obtain ⟨cs, hc⟩ := zby row13 e; exact ⟨cs, _, hc, by decide⟩)
 have hK14 : Kp wB w14 (one_ b6) := (hK12.trans0 k13).trans k14 fun q hq e => by exfalso; have := (row13.lt q e).1; omega
 obtain ⟨a14, c14, rfl⟩ := zac o14
 have a7 := v7.at
 clear a6 v6' bk12 st12 row12 hx k13 k14 k12 row13 hb6o hK12
 refine KGO ?_
 refine SCK 0 v7 fun w15 v15 k15 => ?_
 have row15 := zad o14 k15 (fun q hq e => by have e : q = b7 := e; subst e; exact zae o14 v7 (by decide) hq)
 have bk15 := bk14.keep k15 (fun q e => by have e : q = b7 := e; subst e; exact v7.foreign (by decide) (by decide) (by decide))
 have st15 : ∀ p ∈ H, StabA w15 p.1 p.2 := fun p hp => (st14 p hp).stepT v7 (by decide) k15
 have st9 := st9.stepT v7 (by decide) k15
 have v6 := v6.keep k15 (fun e => by have e : b6 = b7 := e; omega)
 have hK15 : Kp wB w15 (one_ b6) := hK14.trans k15 fun q hq e => by exfalso; have e : q = b7 := e; omega
 have hac : accs (H ++ [(h', B)]) = accs H ++ [B] := by simp
 have hgl : (accs H ++ [B]).getD ((H ++ [(h', B)]).length - 1) default = B := by
  rw [List.length_append, List.length_singleton, Nat.add_sub_cancel, ← hal, List.getD_eq_getElem?_getD, List.getElem?_concat_length, Option.getD_some]
 refine KGO ?_
 refine ⟨⟨i + 1, H ++ [(h', B)], ⟨a14, _, c14⟩, h', B⟩, ⟨rfl, rfl, rfl, rfl, v_int (by simp), trivial⟩, ⟨hK15, by dsimp only; omega, ⟨row15, ⟨_, _, by rw [hac]; exact bk15⟩, fun p hp => ?_, by rw [hac]; exact zkp hcn gB hstA, ?_⟩, v15, v6, st9, by rw [hac]; exact hgl, by rw [hac]; exact hw1.symm, by simp, by dsimp only; simp; omega⟩, by dsimp only; omega⟩
 ·rcases List.mem_append.1 hp with hp | hp
  ·exact st15 p hp
  ·rw [List.mem_singleton.1 hp]; exact st9
 ·rw [hac, zaI (by simp), List.getElem_append_left (by omega)]
  have := hH.zero
  rw [zaI (by omega)] at this
  exact this
end
end Go.Proofs.YtcplagfblmemhaaGreatDoor
