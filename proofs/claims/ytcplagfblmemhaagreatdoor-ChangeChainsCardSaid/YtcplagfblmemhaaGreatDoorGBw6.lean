/- Helper text of this claim: lemmas and contracts that the proved statement rests on; no conditions of its own. -/
import Derived.Test.YtcplagfblmemhaaGreatDoorGBw4
namespace Go.Proofs.YtcplagfblmemhaaGreatDoor
set_option linter.unusedVariables false
set_option maxHeartbeats 4000000
open Go.RowKit Go.Pw Go.Vc Go.Cs Go.Lib
set_option linter.unusedVariables false
set_option maxRecDepth 100000
section
variable {w : World}
theorem zpc (b : Bx) (id : Int) {bp : Nat} (hc : w.cell? ⟨bp, 0, none⟩ = some (.int .i64 id)) : Calls Tryz.prog 154 #[.agg (boxCells b).toArray, .pointer (some ⟨bp, 0, none⟩)] w fun e w' => e = .returned (.bool (decide (b.up = id))) ∧ Kp w w' n_ := by
 refine zaa (args := [.agg #[.int .i64 b.id, .int .i64 b.up, .string (str b.name), .string (str b.role)], .pointer (some ⟨bp, 0, none⟩)]) Tryz.func154 rfl NL ?_; refine GW ?_
 rw [show w.alloc (.cells #[.int .i64 b.id, .int .i64 b.up, .string (str b.name), .string (str b.role)] 44) = w.alloc (.cells (List.toArray [.int .i64 b.id, .int .i64 b.up, .string (str b.name), .string (str b.role)]) 44) from rfl]
 have a_b1 := zaq w 44 [.int .i64 b.id, .int .i64 b.up, .string (str b.name), .string (str b.role)]
 have k_w1 : Kp w (w.alloc (.cells (List.toArray [.int .i64 b.id, .int .i64 b.up, .string (str b.name), .string (str b.role)]) 44)) n_ := (Kp.refl _ _).alloc _
 have z_w1 : (w.alloc (.cells (List.toArray [.int .i64 b.id, .int .i64 b.up, .string (str b.name), .string (str b.role)]) 44)).heap.size = w.heap.size + 1 := by simp
 generalize w.alloc (.cells (List.toArray [.int .i64 b.id, .int .i64 b.up, .string (str b.name), .string (str b.role)]) 44) = w1 at *
 generalize hs_b1 : w.heap.size = b1 at *
 refine KGO ?_
 exact ⟨zag (zdk _ _), k_w1⟩
theorem zmq (b : Bx) (r : List UInt8) {bp : Nat} (hc : w.cell? ⟨bp, 0, none⟩ = some (.string (str r))) : Calls Tryz.prog 85 #[.agg (boxCells b).toArray, .pointer (some ⟨bp, 0, none⟩)] w fun e w' => e = .returned (.bool (decide (b.role = r))) ∧ Kp w w' n_ := by
 refine zaa (args := [.agg #[.int .i64 b.id, .int .i64 b.up, .string (str b.name), .string (str b.role)], .pointer (some ⟨bp, 0, none⟩)]) Tryz.func85 rfl NL ?_; refine GW ?_
 rw [show w.alloc (.cells #[.int .i64 b.id, .int .i64 b.up, .string (str b.name), .string (str b.role)] 44) = w.alloc (.cells (List.toArray [.int .i64 b.id, .int .i64 b.up, .string (str b.name), .string (str b.role)]) 44) from rfl]
 have a_b1 := zaq w 44 [.int .i64 b.id, .int .i64 b.up, .string (str b.name), .string (str b.role)]
 have k_w1 : Kp w (w.alloc (.cells (List.toArray [.int .i64 b.id, .int .i64 b.up, .string (str b.name), .string (str b.role)]) 44)) n_ := (Kp.refl _ _).alloc _
 have z_w1 : (w.alloc (.cells (List.toArray [.int .i64 b.id, .int .i64 b.up, .string (str b.name), .string (str b.role)]) 44)).heap.size = w.heap.size + 1 := by simp
 generalize w.alloc (.cells (List.toArray [.int .i64 b.id, .int .i64 b.up, .string (str b.name), .string (str b.role)]) 44) = w1 at *
 generalize hs_b1 : w.heap.size = b1 at *
 refine KGO ?_
 exact ⟨zag (by rw [decide_eq_decide, zfW]), k_w1⟩
theorem ziO (s t : List UInt8) (hT : FoldTab w) (hs : s.length ≤ 100000000) (ht : t.length ≤ 100000000) : Calls Tryz.prog 139 #[.string (str s), .string (str t)] w fun e w' => e = .returned (.bool (decide (foldL s = foldL t))) ∧ Kp w w' n_ := by
 refine zaa (args := [.string (str s), .string (str t)]) Tryz.func139 rfl NL ?_; refine GW ?_
 refine CallS.of (Tryz.call131 _ _) (zdH (w := w) (str s) hT (by rw [zbd]; omega)) ?_
 rintro e w1 ⟨rfl, k1⟩
 rw [L_str]
 refine RT ?_
 refine CallS.of (Tryz.call131 _ _) (zdH (w := w1) (str t) (hT.keep k1) (by rw [zbd]; omega)) ?_
 rintro e w2 ⟨rfl, k2⟩
 rw [L_str]
 refine RT ?_
 exact ⟨zag (by rw [decide_eq_decide, zfW]), k1.trans0 k2⟩
theorem zkJ (b : Bx) (up but : Int) (nm : List UInt8) {p1 p2 p3 : Nat} (hT : FoldTab w) (hn : nm.length ≤ 1000000) (hb : b.name.length ≤ 1000000) (c1 : w.cell? ⟨p1, 0, none⟩ = some (.int .i64 up)) (c2 : w.cell? ⟨p2, 0, none⟩ = some (.int .i64 but)) (c3 : w.cell? ⟨p3, 0, none⟩ = some (.string (str nm))) :
  Calls Tryz.prog 138 #[.agg (boxCells b).toArray, .pointer (some ⟨p1, 0, none⟩), .pointer (some ⟨p2, 0, none⟩), .pointer (some ⟨p3, 0, none⟩)] w fun e w' => e = .returned (.bool (decide (b.up = up ∧ b.id ≠ but ∧ foldL b.name = foldL nm))) ∧ Kp w w' n_ := by
 refine zaa (args := [.agg #[.int .i64 b.id, .int .i64 b.up, .string (str b.name), .string (str b.role)], .pointer (some ⟨p1, 0, none⟩), .pointer (some ⟨p2, 0, none⟩), .pointer (some ⟨p3, 0, none⟩)]) Tryz.func138 rfl NL ?_; refine GW ?_
 rw [show w.alloc (.cells #[.int .i64 b.id, .int .i64 b.up, .string (str b.name), .string (str b.role)] 44) = w.alloc (.cells (List.toArray [.int .i64 b.id, .int .i64 b.up, .string (str b.name), .string (str b.role)]) 44) from rfl]
 have a_b1 := zaq w 44 [.int .i64 b.id, .int .i64 b.up, .string (str b.name), .string (str b.role)]
 have k_w1 : Kp w (w.alloc (.cells (List.toArray [.int .i64 b.id, .int .i64 b.up, .string (str b.name), .string (str b.role)]) 44)) n_ := (Kp.refl _ _).alloc _
 have z_w1 : (w.alloc (.cells (List.toArray [.int .i64 b.id, .int .i64 b.up, .string (str b.name), .string (str b.role)]) 44)).heap.size = w.heap.size + 1 := by simp
 generalize w.alloc (.cells (List.toArray [.int .i64 b.id, .int .i64 b.up, .string (str b.name), .string (str b.role)]) 44) = w1 at *
 generalize hs_b1 : w.heap.size = b1 at *
 by_cases h1 : b.up = up
 ·by_cases h2 : b.id = but
  ·refine KGO ?_
   exact ⟨zag (by simp [h2]), k_w1⟩
  ·refine KGO ?_
   refine CallS.of (Tryz.call139 _ _) (ziO (w := w1) b.name nm (hT.keep k_w1) (by omega) (by omega)) ?_
   rintro e w2 ⟨rfl, k2⟩
   refine RT ?_
   refine KGO ?_
   exact ⟨zag (by simp [h1, h2]), k_w1.trans0 k2⟩
 ·refine KGO ?_
  exact ⟨zag (by simp [h1]), k_w1⟩
theorem zdV {v : Value} (l : List Bx) (up : Int) (nm : List UInt8) (but : Int) (hv : RowB w v l) (hl : l.length ≤ 1000000) (hT : FoldTab w) (hn : nm.length ≤ 1000000) (hb : ∀ b ∈ l, b.name.length ≤ 1000000) :
  Calls Tryz.prog 88 #[v, .int .i64 up, .string (str nm), .int .i64 but] w fun e w' => e = .returned (.bool (takenL l up nm but)) ∧ Kp w w' n_ := by
 have hv0 := hv
 obtain ⟨a, cap, rfl, hr⟩ := hv
 refine zaa (args := [.slice a l.length cap, .int .i64 up, .string (str nm), .int .i64 but]) Tryz.func88 rfl NL ?_; refine GW ?_
 rw [show w.alloc (.cells #[.int .i64 up] 3) = w.alloc (.cells (List.toArray [.int .i64 up]) 3) from rfl]
 have a_b1 := zaq w 3 [.int .i64 up]
 have k_w1 : Kp w (w.alloc (.cells (List.toArray [.int .i64 up]) 3)) n_ := (Kp.refl _ _).alloc _
 have z_w1 : (w.alloc (.cells (List.toArray [.int .i64 up]) 3)).heap.size = w.heap.size + 1 := by simp
 generalize w.alloc (.cells (List.toArray [.int .i64 up]) 3) = w1 at *
 generalize hs_b1 : w.heap.size = b1 at *
 rw [show w1.alloc (.cells #[.string (str nm)] 9) = w1.alloc (.cells (List.toArray [.string (str nm)]) 9) from rfl]
 have a_b2 := zaq w1 9 [.string (str nm)]
 have k_w2 : Kp w1 (w1.alloc (.cells (List.toArray [.string (str nm)]) 9)) n_ := (Kp.refl _ _).alloc _
 have z_w2 : (w1.alloc (.cells (List.toArray [.string (str nm)]) 9)).heap.size = w1.heap.size + 1 := by simp
 generalize w1.alloc (.cells (List.toArray [.string (str nm)]) 9) = w2 at *
 generalize hs_b2 : w1.heap.size = b2 at *
 rw [show w2.alloc (.cells #[.int .i64 but] 3) = w2.alloc (.cells (List.toArray [.int .i64 but]) 3) from rfl]
 have a_b3 := zaq w2 3 [.int .i64 but]
 have k_w3 : Kp w2 (w2.alloc (.cells (List.toArray [.int .i64 but]) 3)) n_ := (Kp.refl _ _).alloc _
 have z_w3 : (w2.alloc (.cells (List.toArray [.int .i64 but]) 3)).heap.size = w2.heap.size + 1 := by simp
 generalize w2.alloc (.cells (List.toArray [.int .i64 but]) 3) = w3 at *
 generalize hs_b3 : w2.heap.size = b3 at *
 have K3 := (k_w1.trans0 k_w2).trans0 k_w3
 have c1 : w3.cell? ⟨b1, 0, none⟩ = some (.int .i64 up) := zao (a_b1 0 _ rfl) (k_w2.trans0 k_w3)
 have c2 : w3.cell? ⟨b3, 0, none⟩ = some (.int .i64 but) := a_b3 0 _ rfl
 have c3 : w3.cell? ⟨b2, 0, none⟩ = some (.string (str nm)) := zao (a_b2 0 _ rfl) k_w3
 conv => arg 3; simp [ev, upd]
 refine CallS.of (Tryz.call84 _ _) (cf3 (w := w3) l 138 (.pointer (some ⟨b1, 0, none⟩)) (.pointer (some ⟨b3, 0, none⟩)) (.pointer (some ⟨b2, 0, none⟩)) (fun b => decide (b.up = up ∧ b.id ≠ but ∧ foldL b.name = foldL nm)) (hv0.keep K3) hl Tryz.call138 (fun b hb2 w' k => zkJ b up but nm (hT.keep (K3.trans0 k)) hn (hb b hb2) (zao c1 k) (zao c2 k) (zao c3 k))) ?_
 rintro e w4 ⟨rfl, k4⟩
 refine RT ?_
 exact ⟨rfl, K3.trans0 k4⟩
end
abbrev OwnB (w : World) (B : Nat) (v : Value) (l : List Bx) : Prop := w.ownsRow B 44 4 v l.length (l.flatMap boxCells)
theorem boxLen (b : Bx) : (boxCells b).length = 4 := rfl
theorem boxOne (b : Bx) : ∀ u ∈ boxCells b, u.oneCell' = true := fun u hu => by
 simp only [boxCells, List.mem_cons, List.not_mem_nil, or_false] at hu
 rcases hu with rfl | rfl | rfl | rfl <;> rfl
theorem boxesOne (l : List Bx) : ∀ u ∈ l.flatMap boxCells, u.oneCell' = true := fun u hu => by
 obtain ⟨b, _, hb⟩ := List.mem_flatMap.1 hu
 exact boxOne b u hb
theorem boxInfo : (Tryz.prog.info? 44).map (fun i => (i.zero, i.size, i.bytes)) = some (some (.agg #[.int .i64 0, .int .i64 0, .string ⟨#[]⟩, .string ⟨#[]⟩]), 4, 48) := by kernel_rfl
section
variable {w : World}
theorem znS (w : World) : (Instr.buildSlice 31 0 [].toArray).run Tryz.prog w = .ok (.slice (some ⟨w.heap.size, 0, none⟩) 0 0) (w.alloc (.cells #[] 44)) := by
 simp [Instr.buildSlice, go_sem, Tryz.runUnderlying31]
theorem zea {v : Value} (l : List Bx) (hv : RowB w v l) (hl : l.length ≤ 1000000) : Calls Tryz.prog 90 #[v] w fun e w' => ∃ v', e = .returned v' ∧ OwnB w' w.heap.size v' l ∧ Kp w w' n_ := by
 obtain ⟨a, cap, rfl, hr⟩ := hv
 have hnil : l.length = 0 → l = [] := List.eq_nil_of_length_eq_zero
 rcases a with _ | ⟨gb, o, sp⟩
 ·obtain rfl : l = [] := hnil (by
   rcases Nat.eq_zero_or_pos l.length with h | h
   ·exact h
   ·obtain ⟨g, o, h1, _⟩ := hr h; cases h1)
  refine zaa (args := [.slice none 0 cap]) Tryz.func90 rfl NL ?_; refine GW ?_
  refine KGO ?_
  exact ⟨_, rfl, World.ownsRow_nil _ _ _ _, Kp.refl _ _⟩
 ·refine zaa (args := [.slice (some ⟨gb, o, sp⟩) l.length cap]) Tryz.func90 rfl NL ?_; refine GW ?_
  refine KGO ?_
  refine RunV.of (znS _) ?_
  have o1 : (w.alloc (.cells #[] 44)).ownsRow w.heap.size 44 4 (.slice (some ⟨w.heap.size, 0, none⟩) 0 0) 0 [] := World.ownsRow_made w #[] 0 (Nat.le_refl _) (by decide) (by simp)
  have k1 : Kp w (w.alloc (.cells #[] 44)) n_ := (Kp.refl _ _).alloc _
  have hB : w.heap.size ≤ (w.alloc (.cells #[] 44)).heap.size := k1.size
  generalize w.alloc (.cells #[] 44) = w1 at *
  refine KGO ?_
  have hnews : ∀ j u, (l.flatMap boxCells)[j]? = some u → w1.cell? ((⟨gb, o, sp⟩ : Addr).add j) = some u := fun j u hj => by
   rcases Nat.eq_zero_or_pos l.length with h | h
   ·rw [hnil h] at hj; simp at hj
   ·obtain ⟨g', o', h1, _, h3⟩ := hr h
    injection h1 with h1
    injection h1 with h4 h5 h6
    subst h4; subst h5; subst h6
    rw [add_none]
    exact zao (h3 j u hj) k1
  refine RunN.app Tryz.underlying31 boxInfo rfl (by decide) o1 hB ⟨gb, o, sp⟩ l.length cap (l.flatMap boxCells) (zay boxCells 4 boxLen l) hnews (boxesOne l) (by omega) (by omega) fun v' w' h2 h3 => ?_
  obtain ⟨a', c', rfl⟩ : ∃ a c, v' = .slice a (0 + l.length) c := zac h2
  refine KGO ?_
  refine ⟨_, rfl, ?_, k1.own o1 (Nat.le_refl _) h3⟩
  rw [List.nil_append, Nat.zero_add] at h2
  rw [Nat.zero_add]
  exact h2
end
section
variable {w : World}
theorem zpn {f : Fr} {x : Operand} (w : World) (hx : ev f x = .int .i64 0 := by rfl) : (Instr.sliceAt 31 (.slice none 0 0) ((some x).map (ev f)) none none).run Tryz.prog w = .ok (.slice none 0 0) w := by
 obtain ⟨i, hi, _, hs, _⟩ := zbg boxInfo
 simp [Instr.sliceAt, hx, Instr.slice, Instr.sliceBounds, go_sem, zaA Tryz.underlying31, zbi hi]
theorem zqW {vb g o n c : Nat} {cells : List Value} {b : Bx} (hvb : VarK w vb 44 (boxCells b)) (hv : VarK w g 44 cells) (hne : vb ≠ g) (h0 : cells.length ≠ 0) :
  (callFunc 140 #[.slice (some ⟨vb, 0, none⟩) 1 1, .slice (some ⟨g, o, none⟩) n c]).run Tryz.prog w = .ok (.value (.bool false)) w := by
 have hsz : ∀ w, (Go.sizeOf 44).run Tryz.prog w = .ok 4 w := fun w => by
  obtain ⟨i, hi, _, hs, _⟩ := zbg boxInfo
  rw [zbi hi, hs]
 rw [run_callFunc_extern Tryz.func140 (by kernel_rfl) (by kernel_rfl) (by kernel_rfl) (e := Extern.SlicesOverlaps.overlaps #[31, 31] #[4]) (by kernel_rfl),
  Lib.run_overlaps_apart w 31 4 44 Tryz.underlying31 4 hsz ⟨vb, 0, none⟩ ⟨g, o, none⟩ 1 1 n c hne _ _ _ _ hvb.shape hv.shape h0 (hvb.frozen 0) (hvb.frozen _)]
 rfl
theorem zgC {v : Value} {B vb : Nat} (l : List Bx) (i : Nat) (b : Bx) (ho : OwnB w B v l) (hB : B ≤ w.heap.size) (hi : i ≤ l.length) (hl : l.length ≤ 1000) (hvb : VarK w vb 44 (boxCells b)) (hne : ∀ g, v.ownBlock = some g → g ≠ vb) :
  Calls Tryz.prog 89 #[v, .int .i64 (i : Nat), .slice (some ⟨vb, 0, none⟩) 1 1] w fun e w' => ∃ v', e = .returned v' ∧ OwnB w' B v' (l.take i ++ b :: l.drop i) ∧ Kp w w' (fun k => B ≤ k) := by
 have hlenK := zay boxCells 4 boxLen
 have htkK := zbb boxCells 4 boxLen
 have hdrK := zbc boxCells 4 boxLen
 have hnews : ∀ j u, (boxCells b)[j]? = some u → w.cell? ((⟨vb, 0, none⟩ : Addr).add j) = some u := hvb.cells w 0 fun j u h => by simpa using h
 by_cases hin : i = l.length
 ·subst hin
  have hend : ∀ v' w', w'.ownsRow B 44 4 v' (l.length + 1) (l.flatMap boxCells ++ boxCells b) → w.grownBy w' v.ownBlock → OwnB w' B v' (l.take l.length ++ b :: l.drop l.length) ∧ Kp w w' (fun k => B ≤ k) := fun v' w' h1 h2 => by
   rw [List.take_length, List.drop_length]
   refine ⟨?_, ⟨h2.os, h2.tape, h2.output, h2.size, fun k hk hn => h2.block k hk fun e => hn (ho.lt k e.symm).1⟩⟩
   unfold OwnB
   rw [List.length_append, List.flatMap_append]
   simpa using h1
  have happ : ∀ {K : Value → World → Prop} {cs : Array Bool}, (∀ v' w', w'.ownsRow B 44 4 v' (l.length + 1) (l.flatMap boxCells ++ boxCells b) → w.grownBy w' v.ownBlock → K v' w') → RunN Tryz.prog (builtin .append #[31, 31] 31 cs [v, .slice (some ⟨vb, 0, none⟩) 1 1].toArray) w K := fun k =>
   RunN.app Tryz.underlying31 boxInfo rfl (by decide) ho hB ⟨vb, 0, none⟩ 1 1 (boxCells b) rfl hnews (boxOne b) (by omega) (by omega) k
  rcases own_blockK ho with ⟨rfl, h0⟩ | ⟨g, cap, cells, rfl, hBg, hv, hnc, hcm, hcl, htk⟩
  ·rw [h0] at *
   refine zaa (args := [.slice none 0 0, .int .i64 (0 : Nat), .slice (some ⟨vb, 0, none⟩) 1 1]) Tryz.func89 rfl NL ?_; refine GW ?_
   refine RunV.of (v := .slice none 0 0) (w' := w) (zpn _) ?_
   refine KGO ?_
   refine happ fun v' w' h1 h2 => ?_
   obtain ⟨q1, q2⟩ := hend v' w' h1 h2
   obtain ⟨a', c', rfl⟩ := zac h1
   refine KGO ?_
   exact ⟨_, rfl, q1, q2⟩
  ·refine zaa (args := [.slice (some ⟨g, 0, none⟩) l.length cap, .int .i64 (l.length : Nat), .slice (some ⟨vb, 0, none⟩) 1 1]) Tryz.func89 rfl NL ?_; refine GW ?_
   refine KGO ?_
   refine happ fun v' w' h1 h2 => ?_
   obtain ⟨q1, q2⟩ := hend v' w' h1 h2
   obtain ⟨a', c', rfl⟩ := zac h1
   refine KGO ?_
   exact ⟨_, rfl, q1, q2⟩
 ·rcases own_blockK ho with ⟨rfl, h0⟩ | ⟨g, cap, cells, rfl, hBg, hv, hnc, hcm, hcl, htk⟩
  ·omega
  have hgvb : g ≠ vb := hne g rfl
  have hcells : cells = (l.take i).flatMap boxCells ++ ((l.drop i).flatMap boxCells ++ cells.drop (l.length * 4)) := by
   conv => lhs; rw [← List.take_append_drop (l.length * 4) cells, htk, ← List.take_append_drop (i * 4) (l.flatMap boxCells), htkK, hdrK]
   rw [List.append_assoc]
  have hA : ((l.take i).flatMap boxCells).length = i * 4 := by rw [hlenK, List.length_take, Nat.min_eq_left hi]
  have hD : ((l.drop i).flatMap boxCells).length = (l.length - i) * 4 := by rw [hlenK, List.length_drop]
  have hres : ((l.take i ++ b :: l.drop i).flatMap boxCells) = (l.take i).flatMap boxCells ++ boxCells b ++ (l.drop i).flatMap boxCells := by
   rw [List.flatMap_append, List.flatMap_cons, List.append_assoc]
  have hresl : (l.take i ++ b :: l.drop i).length = l.length + 1 := by rw [List.length_append, List.length_cons, List.length_take, List.length_drop]; omega
  have hsrcD : ∀ (w' : World), VarK w' g 44 cells → ∀ j u, ((l.drop i).flatMap boxCells)[j]? = some u → w'.cell? ((⟨g, 0 + i * 4, none⟩ : Addr).add j) = some u := fun w' h => h.cells w' _ fun j u hj => by
   rw [hcells, Nat.zero_add, List.getElem?_append_right (by omega), hA, Nat.add_sub_cancel_left, List.getElem?_append_left (by
    have := (List.getElem?_eq_some_iff.1 hj).1; exact this)]
   exact hj
  generalize hAe : (l.take i).flatMap boxCells = A at *
  generalize hDe : (l.drop i).flatMap boxCells = D at *
  refine zaa (args := [.slice (some ⟨g, 0, none⟩) l.length cap, .int .i64 (i : Nat), .slice (some ⟨vb, 0, none⟩) 1 1]) Tryz.func89 rfl NL ?_; refine GW ?_
  refine KGO ?_
  refine RunN.capK Tryz.underlying31 ?_
  by_cases hcap : cap < l.length + 1
  ·refine KGO ?_
   rw [if_neg (by omega : ¬ 0 = cap), show ((l.length : Nat) : Int) + ((1 : Nat) : Int) - ((i : Nat) : Int) = ((l.length + 1 - i : Nat) : Int) by omega, Nat.sub_zero, Nat.sub_zero]
   refine RunN.zerosK (olds := A) Tryz.underlying31 Tryz.underlying3 boxInfo rfl (by decide) hA (hv.cells w 0 fun j u hj => by rw [hcells, Nat.zero_add, List.getElem?_append_left (List.getElem?_eq_some_iff.1 hj).1]; exact hj) (by omega) (by omega) (by omega) (by omega) fun w1 tail c' v1 hlen hge hcm' k1 => ?_
   rw [show i + (l.length + 1 - i) = l.length + 1 by omega] at hge ⊢
   have hvb1 := hvb.keep0 k1
   have hv1 := hv.keep0 k1
   have hB2 : B ≤ w.heap.size := hB
   have hg2 : g ≠ w.heap.size := by have := hv.lt; omega
   have hvb2 : vb ≠ w.heap.size := by have := hvb.lt; omega
   have hkB : ∀ {x y : World}, Kp x y (one_ w.heap.size) → Kp x y (fun k => B ≤ k) := fun k => k.mono fun q _ e => by
    have e : q = _ := e
    omega
   generalize w.heap.size = g2 at *
   refine KGO ?_
   rw [if_neg (by omega : ¬ i = c')]
   refine RunN.copyK Tryz.underlying31 boxInfo v1 (a := ⟨vb, 0, none⟩) (news := boxCells b) (m := 1) (by omega) rfl (hvb1.cells _ 0 fun j u h => by simpa using h) (boxOne b) (by rw [hlen, boxLen]; omega) fun w2 v2 k2 => ?_
   have v2 : VarK w2 g2 44 (patch (A ++ tail) (0 + i * 4) (boxCells b)) := v2
   rw [zbw A tail (boxCells b) (0 + i * 4) (by rw [hA]; omega), boxLen] at v2
   have hv2 : VarK w2.drew g 44 cells := hv1.keep (k2.drew) fun e => by
    have e : g = g2 := e
    exact hg2 e
   have v2d : VarK w2.drew g2 44 (A ++ boxCells b ++ tail.drop 4) := v2
   have htl : (A ++ tail).length = A.length + tail.length := List.length_append
   have htd : (tail.drop 4).length = tail.length - 4 := List.length_drop
   refine KGO ?_
   rw [if_neg (by omega : ¬ i + 1 = c'), if_neg (by omega : ¬ i = cap)]
   refine RunN.copyK Tryz.underlying31 boxInfo v2d (a := ⟨g, 0 + i * 4, none⟩) (news := D) (m := l.length - i) (by omega) hD (hsrcD _ hv2) (by rw [← hDe]; exact boxesOne _) (by rw [List.length_append, List.length_append, hA, htd, hD, boxLen]; omega) fun w3 v3 k3 => ?_
   have v3 : VarK w3 g2 44 (patch (A ++ boxCells b ++ tail.drop 4) (0 + (i + 1) * 4) D) := v3
   rw [zbw (A ++ boxCells b) (tail.drop 4) D (0 + (i + 1) * 4) (by rw [List.length_append, hA, boxLen]; omega)] at v3
   refine KGO ?_
   refine ⟨_, rfl, ?_, ((k1.of_none.trans' (hkB k2)).drew).trans' (hkB k3)⟩
   unfold OwnB
   rw [hresl, hres]
   have hrl : (A ++ boxCells b ++ D).length = (l.length + 1) * 4 := by rw [List.length_append, List.length_append, hA, hD, boxLen]; omega
   exact zbj (by omega) v3 hge hcm' (by rw [List.length_append, hrl, List.length_drop, htd, hD]; omega) (by rw [← hrl, List.take_left]) hrl
  ·refine KGO ?_
   refine CallS.ext (zqW hvb hv (fun e => hgvb e.symm) (by rw [hcl]; omega)) ?_
   refine KGO ?_
   rw [if_neg (by omega : ¬ i + 1 = cap - 0), if_neg (by omega : ¬ i = cap - 0), if_neg (by omega : ¬ 0 = cap)]
   have hsrc : ∀ (w' : World), VarK w' g 44 cells → ∀ j u, D[j]? = some u → w'.cell? ((⟨g, 0 + 0 * 4 + i * 4, none⟩ : Addr).add j) = some u := fun w' h j u hj => by
    have := hsrcD w' h j u hj
    rwa [show 0 + 0 * 4 + i * 4 = 0 + i * 4 by omega]
   have hTl : (cells.drop (l.length * 4)).length = (cap - l.length) * 4 := by rw [List.length_drop, hcl]; omega
   generalize cells.drop (l.length * 4) = T at *
   have hvd : VarK w.drew g 44 (A ++ (D ++ T)) := by rw [← hcells]; exact hv
   have hADT : (A ++ (D ++ T)).length = cap * 4 := by rw [← hcells, hcl]
   refine RunN.copyK Tryz.underlying31 boxInfo hvd (a := ⟨g, 0 + 0 * 4 + i * 4, none⟩) (news := D) (m := l.length - i) (by omega) hD (hsrc _ hv) (by rw [← hDe]; exact boxesOne _) (by rw [hADT, hD]; omega) fun w2 v2 k2 => ?_
   have hpl : (patch (A ++ (D ++ T)) (0 + 0 * 4 + (i + 1) * 4) D).length = cap * 4 := by rw [zdL (by rw [hADT, hD]; omega), hADT]
   have v2 : VarK w2 g 44 (patch (A ++ (D ++ T)) (0 + 0 * 4 + (i + 1) * 4) D) := v2
   obtain ⟨X, hX, hXl⟩ : ∃ X : List Value, A ++ (D ++ T) = A ++ X ++ (D ++ T).drop 4 ∧ X.length = 4 := ⟨(D ++ T).take 4, by rw [List.append_assoc, List.take_append_drop], by rw [List.length_take, List.length_append, hD, hTl]; omega⟩
   rw [hX, zbw (A ++ X) ((D ++ T).drop 4) D (0 + 0 * 4 + (i + 1) * 4) (by rw [List.length_append, hA, hXl]; omega), show A ++ X ++ D ++ ((D ++ T).drop 4).drop D.length = A ++ (X ++ D ++ ((D ++ T).drop 4).drop D.length) by simp] at v2
   have hlen2 : (A ++ (X ++ D ++ ((D ++ T).drop 4).drop D.length)).length = cap * 4 := by
    rw [← hpl, hX, zbw (A ++ X) ((D ++ T).drop 4) D (0 + 0 * 4 + (i + 1) * 4) (by rw [List.length_append, hA, hXl]; omega)]
    simp
   have hvbd : VarK w.drew vb 44 (boxCells b) := hvb
   have hvb2 := hvbd.keep k2 fun e => by
    have e : vb = g := e
    exact hgvb e.symm
   refine KGO ?_
   rw [if_neg (by omega : ¬ i = cap - 0)]
   refine RunN.copyK Tryz.underlying31 boxInfo v2 (a := ⟨vb, 0, none⟩) (news := boxCells b) (m := 1) (by omega) rfl (hvb2.cells _ 0 fun j u h => by simpa using h) (boxOne b) (by rw [hlen2, boxLen]; omega) fun w3 v3 k3 => ?_
   have v3 : VarK w3 g 44 (patch (A ++ (X ++ D ++ ((D ++ T).drop 4).drop D.length)) (0 + 0 * 4 + i * 4) (boxCells b)) := v3
   have hl3 := zdL (cells := A ++ (X ++ D ++ ((D ++ T).drop 4).drop D.length)) (o := 0 + 0 * 4 + i * 4) (news := boxCells b) (by rw [hlen2, boxLen]; omega)
   rw [zbw A (X ++ D ++ ((D ++ T).drop 4).drop D.length) (boxCells b) (0 + 0 * 4 + i * 4) (by rw [hA]; omega), boxLen, List.append_assoc X, List.drop_append_of_le_length (by omega), List.drop_of_length_le (by omega), List.nil_append] at v3 hl3
   refine KGO ?_
   have hkB : ∀ {x y : World}, Kp x y (one_ g) → Kp x y (fun k => B ≤ k) := fun k => k.mono fun q _ e => by
    have e : q = g := e
    omega
   refine ⟨_, rfl, ?_, (((Kp.refl w _).drew).trans' (hkB k2)).trans' (hkB k3)⟩
   unfold OwnB
   rw [hresl, hres]
   have hrl : (A ++ boxCells b ++ D).length = (l.length + 1) * 4 := by rw [List.length_append, List.length_append, hA, hD, boxLen]; omega
   refine zbj hBg v3 (by omega) hcm (by rw [Nat.sub_zero, hl3, ← List.append_assoc X, hlen2]) ?_ hrl
   rw [Nat.sub_zero, ← List.append_assoc, ← hrl, List.take_left]
end
section
variable {w : World}
theorem zpb {v : Value} {B : Nat} (l : List Bx) (i : Nat) (ho : OwnB w B v l) (hB : B ≤ w.heap.size) (hi : i < l.length) (hl : l.length ≤ 1000) :
  Calls Tryz.prog 155 #[v, .int .i64 (i : Nat), .int .i64 ((i + 1 : Nat) : Int)] w fun e w' => ∃ v', e = .returned v' ∧ OwnB w' B v' (l.take i ++ l.drop (i + 1)) ∧ Kp w w' (fun k => B ≤ k) := by
 have hlenK := zay boxCells 4 boxLen
 have htkK := zbb boxCells 4 boxLen
 have hdrK := zbc boxCells 4 boxLen
 rcases own_blockK ho with ⟨rfl, h0⟩ | ⟨g, cap, cells, rfl, hBg, hv, hnc, hcm, hcl, htk⟩
 ·omega
 refine zaa (args := [.slice (some ⟨g, 0, none⟩) l.length cap, .int .i64 (i : Nat), .int .i64 ((i + 1 : Nat) : Int)]) Tryz.func155 rfl NL ?_; refine GW ?_
 refine RunV.of (zeG (i := i) (j := i + 1) (m := l.length) Tryz.underlying31 boxInfo (by omega) (by omega) (by omega)) ?_
 have hcells : cells = (l.take i).flatMap boxCells ++ (cells.drop (i * 4)) := by
  conv => lhs; rw [← List.take_append_drop (i * 4) cells]
  rw [show cells.take (i * 4) = (cells.take (l.length * 4)).take (i * 4) by rw [List.take_take, Nat.min_eq_left (by omega)], htk, htkK]
 have hA : ((l.take i).flatMap boxCells).length = i * 4 := by rw [hlenK, List.length_take]; omega
 have hD : ((l.drop (i + 1)).flatMap boxCells).length = (l.length - (i + 1)) * 4 := by rw [hlenK, List.length_drop]
 have hres : (l.take i ++ l.drop (i + 1)).flatMap boxCells = (l.take i).flatMap boxCells ++ (l.drop (i + 1)).flatMap boxCells := List.flatMap_append
 have hresl : (l.take i ++ l.drop (i + 1)).length = l.length - 1 := by rw [List.length_append, List.length_take, List.length_drop]; omega
 have hsrcD : ∀ j u, ((l.drop (i + 1)).flatMap boxCells)[j]? = some u → cells[(i + 1) * 4 + j]? = some u := fun j u hj => by
  rw [← hdrK, List.getElem?_drop, ← htk, List.getElem?_take] at hj
  split at hj
  ·exact hj
  ·cases hj
 generalize hAe : (l.take i).flatMap boxCells = A at *
 generalize hDe : (l.drop (i + 1)).flatMap boxCells = D at *
 have hD1 : ∀ u ∈ D, u.oneCell' = true := by rw [← hDe]; exact boxesOne _
 refine KGO ?_
 rw [if_neg (by omega : ¬ 0 = cap)]
 obtain ⟨X, hX⟩ : ∃ X, (if i + 1 = cap then 0 else 0 + (i + 1) * 4) = X := ⟨_, rfl⟩
 rw [hX]
 have hvd : VarK w.drew g 44 cells := hv
 have hnews : ∀ j u, D[j]? = some u → w.drew.cell? ((⟨g, X, none⟩ : Addr).add j) = some u := hvd.cells _ _ fun j u hj => by
  have hlt := (List.getElem?_eq_some_iff.1 hj).1
  rw [hD] at hlt
  rw [if_neg (by omega)] at hX
  rw [← hX, Nat.zero_add]
  exact hsrcD j u hj
 refine RunN.roomK (s := 4) (n := i) (c := cap) (m := l.length - (i + 1)) Tryz.underlying31 boxInfo hvd (a := ⟨g, X, none⟩) (news := D) hD hnews hD1 (by omega) (by rw [hcl]; omega) fun w2 v2 k2 => ?_
 rw [show i + (l.length - (i + 1)) = l.length - 1 by omega] at v2 ⊢
 have htA : cells.take (i * 4) = A := by rw [hcells, ← hA, List.take_left]
 rw [htA] at v2
 have hRl : (cells.drop ((l.length - 1) * 4)).length = (cap - (l.length - 1)) * 4 := by rw [List.length_drop, hcl]; omega
 generalize cells.drop ((l.length - 1) * 4) = R at *
 refine KGO ?_
 rw [if_neg (by omega : ¬ l.length - 1 = cap)]
 refine RunN.clearK (s := 4) (n := l.length - (l.length - 1)) Tryz.underlying31 boxInfo rfl (by intro u hu; simp [Value.cells] at hu; rcases hu with rfl | rfl | rfl | rfl <;> rfl) v2 (by rw [List.length_append, List.length_append, hA, hD, hRl]; omega) fun w3 zs hzl v3 k3 => ?_
 refine KGO ?_
 have hkB : ∀ {x y : World}, Kp x y (one_ g) → Kp x y (fun k => B ≤ k) := fun k => k.mono fun q _ e => by
  have e : q = g := e
  omega
 refine ⟨_, rfl, ?_, (((Kp.refl w _).drew).trans' (hkB k2)).trans' (hkB k3)⟩
 unfold OwnB
 rw [hresl, hres]
 have hrl : (A ++ D).length = (l.length - 1) * 4 := by rw [List.length_append, hA, hD]; omega
 have ho3 : 0 + 0 * 4 + (l.length - 1) * 4 = (A ++ D).length := by rw [hrl]; omega
 have ho4 : 0 + (l.length - 1) * 4 = (A ++ D).length := by rw [hrl]; omega
 first | rw [ho3] at v3 | rw [ho4] at v3
 rw [List.take_left] at v3
 refine zbj hBg v3 (by omega) hcm (by rw [List.length_append, List.length_append, hrl, List.length_drop, List.length_append, hrl, hRl, hzl]; omega) ?_ hrl
 rw [← hrl, List.append_assoc, List.take_left]
end
end Go.Proofs.YtcplagfblmemhaaGreatDoor
