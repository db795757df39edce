/- Helper text of this claim: lemmas and contracts that the proved statement rests on; no conditions of its own. -/
import Derived.Test.YtcplagfblmemhaaGreatDoorGCd4
import Derived.Test.YtcplagfblmemhaaGreatDoorGCx2
namespace Go.Proofs.YtcplagfblmemhaaGreatDoor
set_option linter.unusedVariables false
set_option maxHeartbeats 8000000
open Go.Shelf Go.RowKit Go.Pw Go.Vc Go.Cs Go.Lib Go.Cd Go.Cx
set_option linter.unusedVariables false
set_option maxRecDepth 100000
def ReadOk (w w' : World) (r : Option Bk) (e : Ending) : Prop :=
 match r with
 | none => e = .returned (.tuple #[.pointer none, .bool false])
 | some k => ∃ nb v hs, e = .returned (.tuple #[.pointer (some ⟨nb, 0, none⟩), .bool true]) ∧ w.heap.size ≤ nb ∧ BkAt w' w.heap.size nb v hs k
theorem _root_.Go.Vc.AllD.ne {l : List Nat} {w : World} {r : Nat} {T : TypeId} {cs : List Value} (h : AllD l w) (v : VarK w r T cs) : r ∉ l := fun hr => by
 have h1 := h.all r hr
 have h2 : w.heap[r]? = some (.cells cs.toArray T) := v
 rw [h2] at h1; cases h1
theorem _root_.Go.Vc.AllD.keep {l : List Nat} {w w' : World} {c : Nat → Prop} (h : AllD l w) (k : Kp w w' c) (hc : ∀ q, c q → ∃ cs T f, w.heap[q]? = some (.cells cs T f)) : AllD l w' :=
 ⟨h.nodup, fun D hD => by
  have h1 := h.all D hD
  refine (k.block D (Array.getElem?_eq_some_iff.1 h1).1 fun e => ?_).trans h1
  obtain ⟨cs, T, f, h2⟩ := hc D e
  rw [h2] at h1; cases h1⟩
theorem _root_.Go.Vc.VarK.cellsE {w : World} {r : Nat} {T : TypeId} {cs : List Value} (v : VarK w r T cs) : ∃ cs T f, w.heap[r]? = some (.cells cs T f) := ⟨_, _, _, v⟩
theorem zmn {w : World} {B s n q : Nat} {e : TypeId} {v : Value} {xs : List Value} (h : w.ownsRow B e s v n xs) (hq : v.ownBlock = some q) : ∃ cs T f, w.heap[q]? = some (.cells cs T f) := by
 rcases own_blockK h with ⟨rfl, _⟩ | ⟨g, cap, cells, rfl, hB, hv, _⟩
 ·cases hq
 ·have e1 : g = q := by simpa [Value.ownBlock] using hq
  subst e1; exact hv.cellsE
theorem zhr : ∀ (k : Nat) (s : St), (numsG k s).1.length ≤ k
 | 0, _ => Nat.le_refl _
 | k + 1, s => by
  unfold numsG
  cases h : numR s with
  | mk n t =>
   cases t with
   | none => simp
   | some r =>
    have := zhr k (some r)
    dsimp only
    cases h2 : numsG k (some r) with
    | mk l q => rw [h2] at this; simpa using this
theorem zlv (s : St) : (numsR s).1.length ≤ stLen s := by
 have h1 := zbl s
 unfold numsR
 cases h : numR s with
 | mk n t =>
  rw [h] at h1
  cases t with
  | none => simp
  | some r =>
   dsimp only
   split
   ·simp
   ·rename_i hn
    have h1 : r.length ≤ stLen s := h1
    have h2 := zhr n (some r)
    cases h3 : numsG n (some r) with
    | mk l q =>
     rw [h3] at h2
     cases q with
     | none => simp
     | some q => have h2 : l.length ≤ n := h2; show l.length ≤ _; omega
theorem ziN (s : St) : stLen (numsR s).2 ≤ stLen s := by
 have g : ∀ (k : Nat) (s : St), stLen (numsG k s).2 ≤ stLen s := by
  intro k
  induction k with
  | zero => intro s; exact Nat.le_refl _
  | succ k ih =>
   intro s
   have h1 := zbl s
   unfold numsG
   cases h : numR s with
   | mk n t =>
    rw [h] at h1
    cases t with
    | none => simp [stLen]
    | some r =>
     have h2 := ih (some r)
     dsimp only
     cases h3 : numsG k (some r) with
     | mk l q => rw [h3] at h2; exact Nat.le_trans h2 h1
 have h1 := zbl s
 unfold numsR
 cases h : numR s with
 | mk n t =>
  rw [h] at h1
  cases t with
  | none => simp [stLen]
  | some r =>
   dsimp only
   split
   ·simp [stLen]
   ·have h2 := g n (some r)
    cases h3 : numsG n (some r) with
    | mk l q =>
     rw [h3] at h2
     cases q with
     | none => simp [stLen]
     | some q => exact Nat.le_trans h2 h1
theorem zaE (a b c : Int) (w : World) : (Instr.build 66 [(0, .int .i64 a), (1, .int .i64 b), (2, .int .i64 c)].toArray).run Tryz.prog w = .ok (.agg #[.int .i64 a, .int .i64 b, .int .i64 c]) w := by
 simp [Instr.build, Instr.fill, go_sem, Tryz.runUnderlying66]
theorem bs1Chg (c : Chg) (w : World) : (Instr.buildSlice 53 1 [(0, .agg #[.int .i64 c.of, .int .i64 c.id, .int .i64 c.what])].toArray).run Tryz.prog w = .ok (.slice (some ⟨w.heap.size, 0, none⟩) 1 1) (w.alloc (.cells (List.toArray (chC c)) 66)) := by
 simp [Instr.buildSlice, go_sem, Tryz.runUnderlying53]
 rfl
theorem zdb {W w' : World} {B nb r : Nat} {T : TypeId} {v : Sl} {hs : List Sl} {k : Bk} {cs : List Value} (hb : BkAt W B nb v hs k) (hv : VarK W r T cs) (h1 : T ≠ 78) (h2 : 53 ≠ T) (kk : Kp W w' (fun q => q = nb ∨ v.v.ownBlock = some q)) : VarK w' r T cs :=
 hv.keep kk fun e => by
  rcases e with e | e
  ·have a : W.heap[nb]? = some (.cells (List.toArray [.int .i64 k.state, .int .i64 k.kept, v.v]) 78) := hb.var
   have b : W.heap[r]? = some (.cells cs.toArray T) := hv
   rw [e, a] at b
   injection b with b; injection b with b1 b2 b3
   exact h1 b2.symm
  ·exact zae hb.own hv h2 e
theorem zjP {W w' : World} {B nb : Nat} {v : Sl} {hs : List Sl} {k : Bk} {l : List Nat} (hb : BkAt W B nb v hs k) (hd : AllD l W) (kk : Kp W w' (fun q => q = nb ∨ v.v.ownBlock = some q)) : AllD l w' :=
 hd.keep kk fun q e => by
  rcases e with rfl | e
  ·exact hb.var.cellsE
  ·exact zmn hb.own e
theorem zfU {w W w' : World} {nb : Nat} {v : Sl} {hs : List Sl} {k : Bk} (hb : BkAt W w.heap.size nb v hs k) (hnb : w.heap.size ≤ nb) (h : Kp w W n_) (kk : Kp W w' (fun q => q = nb ∨ v.v.ownBlock = some q)) : Kp w w' n_ :=
 h.trans kk fun i hi e => by
  rcases e with e | e
  ·omega
  ·have := hb.own.lt i e; omega
def chgs (N : List Nat) (j : Nat) : List Chg := (List.range j).map fun i => ⟨(N.getD (3 * i) 0 : Nat), (N.getD (3 * i + 1) 0 : Nat), (N.getD (3 * i + 2) 0 : Nat)⟩
theorem zlw (N : List Nat) (j : Nat) : chgs N (j + 1) = chgs N j ++ [⟨(N.getD (3 * j) 0 : Nat), (N.getD (3 * j + 1) 0 : Nat), (N.getD (3 * j + 2) 0 : Nat)⟩] := by
 unfold chgs; rw [List.range_succ, List.map_append]; rfl
theorem zlr (a b c : Nat) (N : List Nat) (j : Nat) : chgs (a :: b :: c :: N) (j + 1) = ⟨a, b, c⟩ :: chgs N j := by
 unfold chgs
 rw [List.range_succ_eq_map, List.map_cons, List.map_map]
 congr 1
theorem zgF (N : List Nat) (j : Nat) : (chgs N j).length = j := by simp [chgs]
theorem zet : ∀ (N : List Nat), chunkC N = if N.length % 3 = 0 then some (chgs N (N.length / 3)) else none
 | [] => rfl
 | [_] => rfl
 | [_, _] => rfl
 | a :: b :: c :: r => by
  unfold chunkC
  rw [zet r]
  simp only [List.length_cons]
  by_cases h : r.length % 3 = 0
  ·rw [if_pos h, if_pos (by omega), show (r.length + 1 + 1 + 1) / 3 = r.length / 3 + 1 by omega, zlr]; rfl
  ·rw [if_neg h, if_neg (by omega)]; rfl
section
variable {w : World}
theorem zpN (s : ByteArray) (hs : s.size ≤ 1000000) : Calls Tryz.prog 18 #[.string s] w fun e w' => ReadOk w w' (readA (L s)) e ∧ Kp w w' n_ := by
 have hLs : (L s).length = s.size := rfl
 refine zaa (args := [.string s]) Tryz.func18 rfl NL ?_; refine GW ?_
 have v2 := VarK.new w 26 [.pointer none]
 have k1 : Kp w (w.alloc (.cells (List.toArray [.pointer none]) 26)) n_ := (Kp.refl _ _).alloc _
 have z1 : (w.alloc (.cells (List.toArray [.pointer none]) 26)).heap.size = w.heap.size + 1 := by simp
 generalize w.alloc (.cells (List.toArray [.pointer none]) 26) = w1 at *
 have v3 := VarK.new w1 4 [.bool false]
 have k2 : Kp w1 (w1.alloc (.cells (List.toArray [.bool false]) 4)) n_ := (Kp.refl _ _).alloc _
 have z2 : (w1.alloc (.cells (List.toArray [.bool false]) 4)).heap.size = w1.heap.size + 1 := by simp
 have v2 := v2.keep0 k2
 generalize w1.alloc (.cells (List.toArray [.bool false]) 4) = w2 at *
 have K2 := k1.trans0 k2
 obtain ⟨r2, hr2⟩ : ∃ r2, w.heap.size = r2 := ⟨_, rfl⟩
 obtain ⟨r3, hr3⟩ : ∃ r3, w1.heap.size = r3 := ⟨_, rfl⟩
 rw [hr2] at v2 ⊢
 rw [hr3] at v3 ⊢
 refine CallS.of (Tryz.call41 _ _) (zpZ s) ?_
 rintro e w3 ⟨rfl, vr, k3⟩
 refine RT ?_
 obtain ⟨rb, hrb⟩ : ∃ rb, w2.heap.size = rb := ⟨_, rfl⟩
 rw [hrb] at vr ⊢
 have K3 := K2.trans0 k3
 have v2 := v2.keep0 k3
 have v3 := v3.keep0 k3
 have hbnd : ∀ (st : St), stLen st ≤ s.size → ∀ u, st = some u → u.length ≤ 140737488355328 := by rintro st h u rfl; have h : u.length ≤ s.size := h; omega
 have hl0 : stLen (some (L s)) ≤ s.size := Nat.le_refl _
 refine CallS.of (Tryz.call42 _ _) (zfc (some (L s)) vr (hbnd _ hl0)) ?_
 rintro e w4 ⟨rfl, vr4, k4⟩
 refine RT ?_
 have hl1 := Nat.le_trans (zbl (some (L s))) hl0
 have hn1 := zfG (some (L s))
 have hread : readA (L s) = (match numR (some (L s)) with | (kept, s1) => (match numR s1 with | (first, s2) => (match numR s2 with | (many, s3) => if kept < 1 ∨ 256 < kept ∨ kept < many then none else (match readG many ⟨first, kept, []⟩ s3 with | none => none | some (b, s) => if s = some [] then some b else none)))) := rfl
 obtain ⟨kept, s1, e1⟩ : ∃ kept s1, numR (some (L s)) = (kept, s1) := ⟨_, _, rfl⟩
 rw [e1] at hread vr4 hl1 hn1 ⊢
 dsimp only at hread vr4 hl1 hn1 ⊢
 refine CallS.of (Tryz.call42 _ _) (zfc s1 vr4 (hbnd _ hl1)) ?_
 rintro e w5 ⟨rfl, vr5, k5⟩
 refine RT ?_
 have hl2 := Nat.le_trans (zbl s1) hl1
 have hn2 := zfG s1
 obtain ⟨first, s2, e2⟩ : ∃ first s2, numR s1 = (first, s2) := ⟨_, _, rfl⟩
 rw [e2] at hread vr5 hl2 hn2 ⊢
 dsimp only at hread vr5 hl2 hn2 ⊢
 refine CallS.of (Tryz.call42 _ _) (zfc s2 vr5 (hbnd _ hl2)) ?_
 rintro e w6 ⟨rfl, vr6, k6⟩
 refine RT ?_
 have hl3 := Nat.le_trans (zbl s2) hl2
 have hn3 := zfG s2
 obtain ⟨many, s3, e3⟩ : ∃ many s3, numR s2 = (many, s3) := ⟨_, _, rfl⟩
 rw [e3] at hread vr6 hl3 hn3 ⊢
 dsimp only at hread vr6 hl3 hn3 ⊢
 have hrbw : w.heap.size ≤ rb := by have := K2.size; omega
 have K36 : Kp w3 w6 (one_ rb) := (k4.trans' k5).trans' k6
 have K6 : Kp w w6 n_ := K3.trans K36 fun i hi e => by have e : i = rb := e; omega
 have ne2 : r2 ≠ rb := by have := K2.size; have := k2.size; omega
 have ne3 : r3 ≠ rb := by have := k2.size; omega
 have v2 := v2.keep K36 (fun e => ne2 e)
 have v3 := v3.keep K36 (fun e => ne3 e)
 have hc2 := v2.at
 have hc3 := v3.at
 have h2w : w.heap.size ≤ r2 := by omega
 have h3w : w.heap.size ≤ r3 := by have := k1.size; omega
 have ne23 : r3 ≠ r2 := by omega
 refine CallS.of (Tryz.call12 _ _) (zcJ first kept (by omega)) ?_
 rintro e w7 (⟨hbad, rfl, k7⟩ | ⟨hok, rfl, hbk, k7⟩)
 ·refine RT ?_
  have v2 := v2.keep0 k7
  have v3 := v3.keep0 k7
  have hb2 : kept < 1 ∨ 256 < kept ∨ kept < many := by omega
  rw [if_pos hb2] at hread
  rw [hread]
  refine KGO ?_
  refine Store.cellK (i := 0) v2 (by simp) (by rfl) ⟨rfl, by simp, by simp⟩ fun w8 v8 k8 => ?_
  refine KGO ?_
  refine Store.cellK (i := 0) (v3.keep k8 (fun e => ne23 e)) (by simp) (by rfl) ⟨rfl, by simp, by simp⟩ fun w9 v9 k9 => ?_
  have a8 := (v8.keep k9 (fun e => ne23 e.symm)).at
  have a9 := v9.at
  have q9 := Kp.refl w9 n_
  refine KGO ?_
  refine GW ?_
  refine KGO ?_
  refine GW ?_
  exact ⟨rfl, ((K6.trans0 k7).trans k8 (fun i hi e => by have e : i = r2 := e; omega)).trans k9 (fun i hi e => by have e : i = r3 := e; omega)⟩
 ·refine RT ?_
  obtain ⟨nb, hnb⟩ : ∃ nb, w6.heap.size = nb := ⟨_, rfl⟩
  rw [hnb] at hbk ⊢
  have hnbw : w.heap.size ≤ nb := by have := K6.size; omega
  have vr7 := vr6.keep0 k7
  have v2 := v2.keep0 k7
  have v3 := v3.keep0 k7
  have K7 := K6.trans0 k7
  by_cases hmk : kept < many
  ·rw [if_pos (by omega)] at hread
   rw [hread]
   refine KGO ?_
   refine Store.cellK (i := 0) v2 (by simp) (by rfl) ⟨rfl, by simp, by simp⟩ fun w8 v8 k8 => ?_
   refine KGO ?_
   refine Store.cellK (i := 0) (v3.keep k8 (fun e => ne23 e)) (by simp) (by rfl) ⟨rfl, by simp, by simp⟩ fun w9 v9 k9 => ?_
   have a8 := (v8.keep k9 (fun e => ne23 e.symm)).at
   have a9 := v9.at
   have q9 := Kp.refl w9 n_
   refine KGO ?_
   refine GW ?_
   refine KGO ?_
   refine GW ?_
   exact ⟨rfl, (K7.trans k8 (fun i hi e => by have e : i = r2 := e; omega)).trans k9 (fun i hi e => by have e : i = r3 := e; omega)⟩
  rw [if_neg (by omega)] at hread
  refine KGO ?_
  refine Loop.introD (ι := Nat × Bk × St) (fun i => [(2, .pointer (some ⟨r2, 0, none⟩)), (3, .pointer (some ⟨r3, 0, none⟩)), (4, .pointer (some ⟨rb, 0, none⟩)), (6, .int .i64 (first : Nat)), (8, .pointer (some ⟨nb, 0, none⟩)), (30, .int .i64 (many : Nat)), (31, .int .i64 (i.1 : Nat))])
   (fun i l wr => Kp w wr n_ ∧ AllD l wr ∧ (∀ D ∈ l, w.heap.size ≤ D) ∧ VarK wr r2 26 [.pointer none] ∧ VarK wr r3 4 [.bool false] ∧ VarK wr rb 130 (rdC i.2.2) ∧ (∃ v hs, BkAt wr w.heap.size nb v hs i.2.1) ∧
    i.1 ≤ many ∧ i.2.1.state = first + i.1 ∧ stLen i.2.2 ≤ s.size ∧ readG many ⟨first, kept, []⟩ s3 = readG (many - i.1) i.2.1 i.2.2) (fun i => many - i.1) (0, ⟨first, kept, []⟩, s3) ⟨rfl, rfl, rfl, rfl, rfl, rfl, rfl, trivial⟩
   ⟨K7, AllD.nil _, (fun _ h => by cases h), v2, v3, vr7, ⟨_, _, ⟨hbk.var, zaj hbk.own hnbw, hbk.hl, fun i hi => absurd hi (Nat.not_lt_zero i), hbk.good⟩⟩, by omega, by simp, hl3, by simp⟩ ?_
  rintro ⟨i, kI, sI⟩ dl g wr ⟨hK, hD, hDw, v2, v3, vr, ⟨v, hs', hb⟩, hi, hst, hsl, hrd⟩
  dsimp only at vr hb hi hst hsl hrd ⊢
  refine GW ?_
  by_cases hlt : i < many
  ·refine KGO ?_
   have vl1 := VarK.new wr 53 [.slice none 0 0]
   have kl1 : Kp wr (wr.alloc (.cells (List.toArray [.slice none 0 0]) 53)) n_ := (Kp.refl _ _).alloc _
   have zl1 : (wr.alloc (.cells (List.toArray [.slice none 0 0]) 53)).heap.size = wr.heap.size + 1 := by simp
   generalize wr.alloc (.cells (List.toArray [.slice none 0 0]) 53) = wl at *
   obtain ⟨lb, hlb⟩ : ∃ lb, wr.heap.size = lb := ⟨_, rfl⟩
   rw [hlb] at vl1 ⊢
   have vr := vr.keep0 kl1
   have hsl16 : stLen sI ≤ 140737488355328 / 16 := by omega
   refine CallS.of (Tryz.call44 _ _) (znk sI vr hsl16) ?_
   rintro e w10 ⟨vn, rfl, on, vr10, k10⟩
   obtain ⟨na, nc, rfl⟩ := zac on
   refine RT ?_
   have hnl := zcH (numsR sI).1
   obtain ⟨N, hN⟩ : ∃ N, (numsR sI).1 = N := ⟨_, rfl⟩
   obtain ⟨s4, hs4⟩ : ∃ s4, (numsR sI).2 = s4 := ⟨_, rfl⟩
   rw [hN] at on hnl
   rw [hs4] at vr10
   have on : w10.ownsRow wl.heap.size 3 1 (.slice na N.length nc) N.length ((iL N).flatMap inC) := by
    have := on; unfold OwnI at this; rw [hnl] at this; exact this
   rw [hN, hnl]
   have lbrb : lb ≠ rb := by have := vr.lt; have := (show rb < wr.heap.size from (by assumption : VarK wr rb 130 (rdC sI)).lt); omega
   have vl10 := vl1.keep k10 (fun e => lbrb e)
   refine CallS.of (Tryz.call43 _ _) (zop na N.length nc) ?_
   rintro e w11 ⟨rfl, vc1, vc2, k11, z11⟩
   refine RT ?_
   obtain ⟨c1, hc1⟩ : ∃ c1, w10.heap.size = c1 := ⟨_, rfl⟩
   rw [hc1] at vc1 vc2 z11 ⊢
   have vl11 := vl10.keep0 k11
   have vr11 := vr10.keep0 k11
   have on11 := zab on k11
   have k1r : Kp wr w11 (one_ rb) := ((kl1.of_none).trans' k10).trans0 k11
   have ne2b : r2 ≠ rb := ne2
   have vr2 := v2.keep k1r (fun e => ne2 e)
   have vr3 := v3.keep k1r (fun e => ne3 e)
   have hb11 := hb.keep k1r (fun q e => by have e : q = rb := e; subst e; exact (by assumption : VarK wr q 130 (rdC sI)).foreign (by decide) (by decide) (by decide))
   have hD11 := hD.keep k1r (fun q e => by have e : q = rb := e; subst e; exact (by assumption : VarK wr q 130 (rdC sI)).cellsE)
   have K11 : Kp w w11 n_ := hK.trans k1r (fun i hi e => by have e : i = rb := e; omega)
   obtain ⟨go, oo, hgo⟩ : ∃ g o, (0 < N.length → na = some ⟨g, o, none⟩) := by
    rcases own_blockK on11 with ⟨_, h0⟩ | ⟨g, cap, cells, e, _⟩
    ·exact ⟨0, 0, fun h => by omega⟩
    ·injection e with e1; exact ⟨g, 0, fun _ => e1⟩
   have hnc := zmV on11
   have hNs : N.length ≤ 1000000 := by have := zlv sI; rw [hN] at this; omega
   have hlbs : lb < w11.heap.size := vl11.lt
   have h2l := v2.lt
   have h3l := v3.lt
   have hlbw : w.heap.size ≤ lb := by omega
   have hc1lb : c1 ≠ lb := by have := vl10.lt; omega
   have hc2lb : c1 + 1 ≠ lb := by have := vl10.lt; omega
   refine Range.intro (α := Nat) (chE go oo N.length) rfl (fun _ _ => rfl) rfl rfl (by decide) (fun _ => rfl) n_ (fun _ h => h.elim)
    (fun pre W => Kp w11 W (one_ lb) ∧ 3 * pre.length ≤ N.length ∧ ∃ sl : Sl, VarK W lb 53 [sl.v] ∧ W.ownsRow (w11.heap.size + 2) 66 3 sl.v pre.length ((chgs N pre.length).flatMap chC))
    (fun c pre W => c = .ret ∧ Kp w11 W (fun q => q = lb ∨ q = r2 ∨ q = r3) ∧ VarK W r2 26 [.pointer none] ∧ VarK W r3 4 [.bool false] ∧ N.length % 3 ≠ 0)
    (fun xs => xs = List.range ((N.length + 2) / 3)) (fun pre x => pre = List.range pre.length ∧ x = pre.length ∧ 3 * x < N.length) ?_ ?_ ?_ ?_ ?_ ?_ ?_
   ·rintro pre W W' ⟨i1, i2, sl, i3, i4⟩ hsz kk
    refine ⟨i1.trans kk fun i hi e => ?_, i2, sl, i3.keep kk (fun e => ?_), zad i4 kk fun q hq e => ?_⟩
    ·rcases e with e | e
     ·exact e.elim
     ·omega
    ·rcases e with e | e
     ·exact e.elim
     ·omega
    ·rcases e with e | e
     ·exact e.elim
     ·have := i4.lt q hq; omega
   ·rintro c pre W W' ⟨i1, i2, i3, i4, i5⟩ hsz kk
    have r2s : r2 < w11.heap.size := vr2.lt
    have r3s : r3 < w11.heap.size := vr3.lt
    refine ⟨i1, i2.trans kk fun i hi e => ?_, i3.keep kk (fun e => ?_), i4.keep kk (fun e => ?_), i5⟩
    ·rcases e with e | e
     ·exact e.elim
     ·omega
    ·rcases e with e | e
     ·exact e.elim
     ·omega
    ·rcases e with e | e
     ·exact e.elim
     ·omega
   ·intro W kk hsz
    exact ⟨kk.of_none, Nat.zero_le _, ⟨none, 0, 0⟩, vl11.keep0 kk, World.ownsRow_nil _ _ _ _⟩
   ·intro J Jx hJI hJab hJxab hY W hW
    have := zpl (w := W) (n := N.length) (c := nc) (b1 := c1) (b2 := c1 + 1) (L := w11.heap.size + 1) (a := na) (g := go) (o := oo) hgo hnc hNs J Jx
     (fun pre W h => ⟨vc1.keep (hJI pre W h).1.1 (fun e => hc1lb e), vc2.keep (hJI pre W h).1.1 (fun e => hc2lb e)⟩) (fun pre W W' h k => hJab pre W W' h k)
     (fun pre W hj hp hlt => hY pre pre.length W hj ⟨hp, rfl, hlt⟩) hW
    simpa using this
   ·rintro pre _ W ⟨i1, i2, sl, i3, i4⟩ ⟨hp, rfl, hltN⟩ hsz
    refine GW ?_
    refine ⟨⟨⟨rfl, rfl⟩, fun W2 k2 z2 => ?_⟩⟩
    refine GW ?_
    obtain ⟨p, hpl⟩ : ∃ p, pre.length = p := ⟨_, rfl⟩
    rw [hpl] at i2 i4 hltN ⊢
    have j1 : Kp w11 W2 (one_ lb) := i1.trans k2 fun i hi e => by have e : i = w11.heap.size + 1 := e; omega
    have j3 := i3.keep k2 (fun e => by have e : lb = w11.heap.size + 1 := e; omega)
    have j4 := zad i4 k2 (fun q hq e => by have e : q = w11.heap.size + 1 := e; have := i4.lt q hq; omega)
    have s2 := vr2.keep j1 (fun e => by have e : r2 = lb := e; omega)
    have s3 := vr3.keep j1 (fun e => by have e : r3 = lb := e; omega)
    have q2 := Kp.refl W2 n_
    have hsz2 : w11.heap.size + 1 < W2.heap.size := by omega
    by_cases hfull : 3 * (p + 1) ≤ N.length
    ·have hmin : min 3 (N.length - 3 * p) = 3 := by omega
     rw [hmin]
     have hna := hgo (by omega)
     obtain ⟨g', eg, _, hg', hat'⟩ := zcI on11 (by omega)
     rw [hna] at eg
     injection eg with eg
     injection eg with eg1 eg2 eg3
     subst eg1; subst eg2
     have hglb : go ≠ lb := fun e => by
      have := zgO on11 (q := lb) (fun cs T f ht => by
       have h' : w11.heap[lb]? = some (.cells (List.toArray [.slice none 0 0]) 53) := vl11
       rw [h'] at ht; injection ht with ht; injection ht with t1 t2 t3; rw [← t2]; decide)
      exact this (by rw [hna, e]; rfl)
     have hce : ∀ i (hi : 3 * p + i < N.length), W2.cell? ⟨go, 0 + 3 * p + i, none⟩ = some (.int .i64 ((N.getD (3 * p + i) 0 : Nat) : Int)) := fun i hi => by
      have h1 := zfb (l := iL N) hat' (i := 3 * p + i) (by rw [zcH]; exact hi)
      rw [j1.cell (by exact hg') (by exact hglb), Nat.add_assoc]
      rw [h1]
      simp [iL, List.getD, hi]
     have hc0 := hce 0 (by omega)
     have hc1' := hce 1 (by omega)
     have hc2' := hce 2 (by omega)
     have al := j3.at
     obtain ⟨sa, sn, sc⟩ := sl
     obtain rfl : sn = p := zcc j4
     have al : At W2 lb 0 [.slice sa sn sc] := al
     refine KGO ?_
     have oblb : Value.ownBlock (.slice sa sn sc) ≠ some lb := zae j4 j3 (by decide)
     have hrd1 : ∀ u, Kp W2 u (own_ (.slice sa sn sc)) → u.cell? ⟨lb, 0, none⟩ = some (.slice sa sn sc) := fun u hu => (j3.keep hu (fun e => oblb e)).at 0 _ rfl
     have hrdN : ∀ i (z : Int), W2.cell? ⟨go, 0 + 3 * sn + i, none⟩ = some (.int .i64 z) → ∀ u, Kp W2 u (own_ (.slice sa sn sc)) → u.cell? ⟨go, 0 + 3 * sn + i, none⟩ = some (.int .i64 z) := fun i z hz u hu => by
      rw [hu.cell (show go < W2.heap.size by omega) (fun e => by have := j4.lt go e; omega)]; exact hz
     refine Draw.heldEnd (fun u => Kp W2 u (own_ (.slice sa sn sc))) (fun _ => true) (by simp) (by decide +kernel) (by decide +kernel) (Kp.refl _ _).drew ?_
     refine KGO ?_
     refine Held.one (by rfl) hrd1 ?_
     refine KGO ?_
     refine Held.one (by rfl) (hrdN 0 _ hc0) ?_
     refine KGO ?_
     refine Held.one (by rfl) (hrdN 1 _ hc1') ?_
     refine KGO ?_
     refine Held.one (by rfl) (hrdN 2 _ hc2') ?_
     refine KGO ?_
     refine RunV.of (zaE _ _ _ _) ?_
     refine KGO ?_
     refine RunV.of (bs1Chg ⟨_, _, _⟩ _) ?_
     have hcs := zlw N sn
     obtain ⟨nc', hnc'⟩ : ∃ x : Chg, (⟨(N.getD (3 * sn) 0 : Nat), (N.getD (3 * sn + 1) 0 : Nat), (N.getD (3 * sn + 2) 0 : Nat)⟩ : Chg) = x := ⟨_, rfl⟩
     rw [hnc'] at hcs
     rw [show (⟨(N.getD (3 * sn + 0) 0 : Nat), (N.getD (3 * sn + 1) 0 : Nat), (N.getD (3 * sn + 2) 0 : Nat)⟩ : Chg) = nc' from hnc']
     have kb : Kp W2 (W2.drew.alloc (.cells (List.toArray (chC nc')) 66)) n_ := (Kp.refl W2 n_).drew.alloc _
     have hbf := zaq W2.drew 66 (chC nc')
     have j4b := zab j4 kb
     have j3b := j3.keep0 kb
     generalize W2.drew.alloc (.cells (List.toArray (chC nc')) 66) = Wb at *
     generalize W2.drew.heap.size = gb at *
     refine ⟨kb.of_none, ?_⟩
     refine GW ?_
     have hclen := zgF N sn
     have j4b' : OwnR 66 chC 3 Wb (w11.heap.size + 2) (.slice sa sn sc) (chgs N sn) := by
      unfold OwnR; rw [hclen]; exact j4b
     refine tyChg.app1 nc' j4b' (Nat.le_trans (by omega) kb.size) hbf (by omega) (by omega) fun v7 w7 o7 k7 => ?_
     rw [← hcs] at o7
     have o7b : w7.ownsRow (w11.heap.size + 2) 66 3 v7 (sn + 1) ((chgs N (sn + 1)).flatMap chC) := by
      have := o7; unfold OwnR at this; rw [zgF] at this; exact this
     obtain ⟨a7, c7, rfl⟩ := zac o7b
     refine ⟨(kb.of_none).trans' k7, ?_⟩
     refine GW ?_
     have j37 := j3b.keep k7 (fun e => oblb e)
     refine Store.cellK (i := 0) j37 (by simp) (by rfl) ⟨rfl, by simp, by simp⟩ fun w8 v8 k8 => ?_
     refine KGO ?_
     have kall : Kp W2 w8 (fun q => own_ (.slice sa sn sc) q ∨ q = lb) := ((kb.of_none (c := fun q => own_ (.slice sa sn sc) q ∨ q = lb)).trans' (k7.mono fun q _ e => .inl e)).trans' (k8.mono fun q _ e => .inr e)
     have ob8 : Value.ownBlock (.slice a7 (sn + 1) c7) ≠ some lb := zae o7b j37 (by decide)
     refine ⟨⟨Rec2.of kall hsz2 (fun e => ?_) (fun e => ?_), ?_, by simp [hpl]; omega, ⟨a7, sn + 1, c7⟩, v8, ?_⟩⟩
     ·rcases e with e | e
      ·have := j4.lt _ e; omega
      ·omega
     ·rcases e with e | e
      ·have := j4.lt _ e; omega
      ·omega
     ·refine j1.trans kall fun i hi e => ?_
      rcases e with e | e
      ·have := j4.lt _ e; omega
      ·exact e
     ·have e1 : (pre ++ [sn]).length = sn + 1 := by simp [hpl]
      rw [e1]
      exact zad o7b k8 (fun q hq e => ob8 (by have e : q = lb := e; rw [← e]; exact hq))
    ·have hmin : min 3 (N.length - 3 * p) < 3 := by omega
     refine KGO ?_
     refine Store.cellK (i := 0) s2 (by simp) (by rfl) ⟨rfl, by simp, by simp⟩ fun w8 v8 k8 => ?_
     refine KGO ?_
     refine Store.cellK (i := 0) (s3.keep k8 (fun e => ne23 e)) (by simp) (by rfl) ⟨rfl, by simp, by simp⟩ fun w9 v9 k9 => ?_
     have v8 := v8.keep k9 (fun e => ne23 e.symm)
     have k89 : Kp W2 w9 (fun q => q = r2 ∨ q = r3) := (k8.mono fun q _ e => .inl e).trans' (k9.mono fun q _ e => .inr e)
     refine KGO ?_
     refine ⟨⟨Rec2.of k89 hsz2 (fun e => by rcases e with e | e <;> omega) (fun e => by rcases e with e | e <;> omega), rfl, (j1.mono fun q _ e => .inl e).trans' (k89.mono fun q _ e => .inr e), v8, v9, by omega⟩⟩
   ·rintro xs W rfl ⟨i1, i2, sl, i3, i4⟩ hsz hdf
    rw [List.length_range] at i2 i4
    have hmod : N.length % 3 = 0 := by omega
    have hdiv : (N.length + 2) / 3 = N.length / 3 := by omega
    rw [hdiv] at i4
    obtain ⟨l, hle⟩ : ∃ l, chgs N (N.length / 3) = l := ⟨_, rfl⟩
    have hll : l.length = N.length / 3 := by rw [← hle]; exact zgF _ _
    have hch : chunkC N = some l := by rw [zet, if_pos hmod, hle]
    rw [hle] at i4
    have hrd2 : readG many ⟨first, kept, []⟩ s3 = if (noteA kI (kI.state + 1) l).1 = 0 then readG (many - (i + 1)) (noteA kI (kI.state + 1) l).2 s4 else none := by
     rw [hrd]
     obtain ⟨k, hk⟩ : ∃ k, many - i = k + 1 := ⟨many - i - 1, by omega⟩
     rw [hk, show many - (i + 1) = k by omega]
     have e : numsR sI = (N, s4) := by rw [← hN, ← hs4]
     simp only [readG, e, hch]
    have KW : Kp wr W (one_ rb) := k1r.trans i1 fun i hi e => by have e : i = lb := e; omega
    have hbW := hb.keep KW (fun q e => by have e : q = rb := e; subst e; exact (by assumption : VarK wr q 130 (rdC sI)).foreign (by decide) (by decide) (by decide))
    have vW2 := v2.keep KW (fun e => ne2 e)
    have vW3 := v3.keep KW (fun e => ne3 e)
    have vWr := vr11.keep i1 (fun e => by have e : rb = lb := e; omega)
    have hDW := hD.keep KW (fun q e => by have e : q = rb := e; subst e; exact (by assumption : VarK wr q 130 (rdC sI)).cellsE)
    have hDc : AllD (w11.heap.size :: dl) W := ⟨List.nodup_cons.2 ⟨fun h => by have h1 := (Array.getElem?_eq_some_iff.1 (hD.all _ h)).1; omega, hDW.nodup⟩, fun D h => by
     rcases List.mem_cons.1 h with rfl | h
     ·exact hdf
     ·exact hDW.all D h⟩
    have hDw : ∀ D ∈ w11.heap.size :: dl, w.heap.size ≤ D := fun D h => by
     rcases List.mem_cons.1 h with rfl | h
     ·omega
     ·exact hDw D h
    have KWw : Kp w W n_ := hK.trans KW fun i hi e => by have e : i = rb := e; omega
    have gI := hb.good
    have gI1 := gI.s1
    have al := i3.at
    have qW := Kp.refl W n_
    obtain ⟨sa, sn, sc⟩ := sl
    obtain rfl : sn = l.length := by rw [hll]; exact zcc i4
    have al : At W lb 0 [.slice sa l.length sc] := al
    have i4 : W.ownsRow (w11.heap.size + 2) 66 3 (.slice sa l.length sc) l.length (l.flatMap chC) := by rw [hll] at i4 ⊢; exact i4
    have hrowl : RowC W (⟨sa, l.length, sc⟩ : Sl).v l := zak i4 rfl
    have hl6 : l.length ≤ 1000000 := by rw [hll]; exact Nat.le_trans (Nat.div_le_self _ _) hNs
    have hsl4 : stLen s4 ≤ s.size := by have := ziN sI; rw [hs4] at this; omega
    refine GW ?_
    refine Num.i64 (by omega) (by omega) ?_
    refine GW ?_
    by_cases hmax : (first : Int) + i = 9223372036854775807
    ·refine Num.any (fun x hx1 hx2 _ => ?_) rfl
     refine GW ?_
     have hn17 : ∀ y, noteA kI y l = (17, kI) := fun y => by unfold noteA; rw [if_pos (.inl (by omega))]
     refine Load.one (by rfl) (al 0 _ rfl) ?_
     refine GW ?_
     have hcall := zcg (vl := ⟨sa, l.length, sc⟩) hbW KWw.size x hx2 hx1 l hrowl hl6
     refine CallS.of (Tryz.call13 _ _) hcall ?_
     rintro e w12 ⟨rfl, ⟨v12, hs12, hb12⟩, k12⟩
     rw [hn17]
     refine RT ?_
     rw [hn17] at hrd2
     rw [if_neg (show ¬ ((17 : Int), kI).1 = 0 from (by decide : ¬ (17 : Int) = 0))] at hrd2
     rw [hrd2] at hread
     rw [show readA (L s) = none from hread]
     have v2 := zdb hbW vW2 (by decide) (by decide) k12
     have v3 := zdb hbW vW3 (by decide) (by decide) k12
     have hD12 := zjP hbW hDc k12
     have K12 := zfU hbW hnbw KWw k12
     clear hrd hst gI1 hmod hdiv
     refine KGO ?_
     refine Store.cellK (i := 0) v2 (by simp) (by rfl) ⟨rfl, by simp, by simp⟩ fun w8 v8 k8 => ?_
     refine KGO ?_
     refine Store.cellK (i := 0) (v3.keep k8 (fun e => ne23 e)) (by simp) (by rfl) ⟨rfl, by simp, by simp⟩ fun w9 v9 k9 => ?_
     have v8 := v8.keep k9 (fun e => ne23 e.symm)
     have hD9 := (hD12.keep k8 (fun q e => by have e : q = r2 := e; subst e; exact v2.cellsE)).keep k9 (fun q e => by have e : q = r3 := e; subst e; exact (v3.keep k8 (fun e => ne23 e)).cellsE)
     have K9 : Kp w w9 n_ := (K12.trans k8 (fun i hi e => by have e : i = r2 := e; omega)).trans k9 (fun i hi e => by have e : i = r3 := e; omega)
     refine KGO ?_
     refine ⟨hD9, fun wz kz => ?_⟩
     have az := (v8.keep kz (AllD.ne hD9 v8)).at
     have bz := (v9.keep kz (AllD.ne hD9 v9)).at
     have qz := Kp.refl wz n_
     have Kz : Kp w wz n_ := Kp.trans K9 kz (fun i hi e => by have := hDw i e; omega)
     refine GW ?_
     refine KGO ?_
     refine GW ?_
     refine KGO ?_
     refine GW ?_
     exact ⟨rfl, Kz⟩
    ·refine Num.i64 (by omega) (by omega) ?_
     refine GW ?_
     refine Load.one (by rfl) (al 0 _ rfl) ?_
     refine GW ?_
     have hst1 : (first : Int) + i + 1 = kI.state + 1 := by omega
     rw [hst1]
     have hx1 : kI.state + 1 ≤ 9223372036854775807 := by omega
     have hx0 : -9223372036854775808 ≤ kI.state + 1 := by have := hb.good.s0; omega
     have hcall := zcg (vl := ⟨sa, l.length, sc⟩) hbW KWw.size (kI.state + 1) hx1 hx0 l hrowl hl6
     refine CallS.of (Tryz.call13 _ _) hcall ?_
     rintro e w12 ⟨rfl, ⟨v12, hs12, hb12⟩, k12⟩
     have v2 := zdb hbW vW2 (by decide) (by decide) k12
     have v3 := zdb hbW vW3 (by decide) (by decide) k12
     have vr12 := zdb hbW vWr (by decide) (by decide) k12
     have hD12 := zjP hbW hDc k12
     have K12 := zfU hbW hnbw KWw k12
     have hst2 : (noteA kI (kI.state + 1) l).1 = 0 → (noteA kI (kI.state + 1) l).2.state = kI.state + 1 := by
      unfold noteA
      split
      ·intro h; cases h
      ·split
       ·intro h; cases h
       ·intro _; rfl
     obtain ⟨er, ber, hne⟩ : ∃ er ber, noteA kI (kI.state + 1) l = (er, ber) := ⟨_, _, rfl⟩
     rw [hne] at hrd2 hb12 hst2 ⊢
     dsimp only at hrd2 hb12 hst2 ⊢
     refine RT ?_
     by_cases h0 : er = 0
     ·rw [if_pos h0] at hrd2
      have hst3 := hst2 h0
      subst h0
      refine KGO ?_
      exact ⟨(i + 1, ber, s4), ⟨rfl, rfl, rfl, rfl, rfl, rfl, v_int (by simp), trivial⟩, ⟨K12, hD12, hDw, v2, v3, vr12, ⟨v12, hs12, hb12⟩, by dsimp only; omega, by dsimp only; omega, hsl4, hrd2⟩, by dsimp only; omega⟩
     ·rw [if_neg h0] at hrd2
      rw [hrd2] at hread
      rw [show readA (L s) = none from hread]
      refine KGO ?_
      refine Store.cellK (i := 0) v2 (by simp) (by rfl) ⟨rfl, by simp, by simp⟩ fun w8 v8 k8 => ?_
      refine KGO ?_
      refine Store.cellK (i := 0) (v3.keep k8 (fun e => ne23 e)) (by simp) (by rfl) ⟨rfl, by simp, by simp⟩ fun w9 v9 k9 => ?_
      have v8 := v8.keep k9 (fun e => ne23 e.symm)
      have hD9 := (hD12.keep k8 (fun q e => by have e : q = r2 := e; subst e; exact v2.cellsE)).keep k9 (fun q e => by have e : q = r3 := e; subst e; exact (v3.keep k8 (fun e => ne23 e)).cellsE)
      have K9 : Kp w w9 n_ := (K12.trans k8 (fun i hi e => by have e : i = r2 := e; omega)).trans k9 (fun i hi e => by have e : i = r3 := e; omega)
      refine KGO ?_
      refine ⟨hD9, fun wz kz => ?_⟩
      have az := (v8.keep kz (AllD.ne hD9 v8)).at
      have bz := (v9.keep kz (AllD.ne hD9 v9)).at
      have qz := Kp.refl wz n_
      have Kz : Kp w wz n_ := Kp.trans K9 kz (fun i hi e => by have := hDw i e; omega)
      refine GW ?_
      refine KGO ?_
      refine GW ?_
      refine KGO ?_
      refine GW ?_
      exact ⟨rfl, Kz⟩
   ·rintro c pre W ⟨rfl, i2, i3, i4, i5⟩ hsz hdf
    have hch : chunkC N = none := by rw [zet, if_neg i5]
    have hrd2 : readG many ⟨first, kept, []⟩ s3 = none := by
     rw [hrd]
     obtain ⟨k, hk⟩ : ∃ k, many - i = k + 1 := ⟨many - i - 1, by omega⟩
     rw [hk]
     have e : numsR sI = (N, s4) := by rw [← hN, ← hs4]
     simp only [readG, e, hch]
    rw [hrd2] at hread
    rw [show readA (L s) = none from hread]
    have KW : Kp wr W (fun q => q = rb ∨ q = r2 ∨ q = r3) := (k1r.mono fun q _ e => .inl e).trans i2 fun i hi e => by
     rcases e with e | e | e
     ·omega
     ·exact .inr (.inl e)
     ·exact .inr (.inr e)
    have hDW : AllD dl W := hD.keep KW (fun q e => by
     rcases e with rfl | rfl | rfl
     ·exact (by assumption : VarK wr q 130 (rdC sI)).cellsE
     ·exact v2.cellsE
     ·exact v3.cellsE)
    have hDc : AllD (w11.heap.size :: dl) W := ⟨List.nodup_cons.2 ⟨fun h => by have h1 := (Array.getElem?_eq_some_iff.1 (hD.all _ h)).1; omega, hDW.nodup⟩, fun D h => by
     rcases List.mem_cons.1 h with rfl | h
     ·exact hdf
     ·exact hDW.all D h⟩
    have hDw : ∀ D ∈ w11.heap.size :: dl, w.heap.size ≤ D := fun D h => by
     rcases List.mem_cons.1 h with rfl | h
     ·omega
     ·exact hDw D h
    have KWw : Kp w W n_ := hK.trans KW fun i hi e => by rcases e with e | e | e <;> omega
    refine KGO ?_
    refine ⟨hDc, fun wz kz => ?_⟩
    have az := (i3.keep kz (AllD.ne hDc i3)).at
    have bz := (i4.keep kz (AllD.ne hDc i4)).at
    have qz := Kp.refl wz n_
    have Kz : Kp w wz n_ := Kp.trans KWw kz (fun i hi e => by have := hDw i e; omega)
    refine GW ?_
    refine KGO ?_
    refine GW ?_
    refine KGO ?_
    refine GW ?_
    exact ⟨rfl, Kz⟩
  ·refine KGO ?_
   have him : i = many := by omega
   subst him
   rw [Nat.sub_self] at hrd
   have hrd : readG i ⟨first, kept, []⟩ s3 = some (kI, sI) := hrd
   rw [hrd] at hread
   dsimp only at hread
   refine CallS.of (Tryz.call45 _ _) (zpX sI vr (hbnd _ hsl)) ?_
   rintro e w7b ⟨rfl, k7b⟩
   refine RT ?_
   have v2 := v2.keep0 k7b
   have v3 := v3.keep0 k7b
   have hb := hb.keep0 k7b
   have hD := hD.keep k7b (fun q e => e.elim)
   have hK := hK.trans0 k7b
   by_cases hdn : sI = some []
   ·rw [if_pos hdn] at hread
    rw [decide_eq_true hdn]
    rw [hread]
    refine KGO ?_
    refine Store.cellK (i := 0) v2 (by simp) (by rfl) ⟨rfl, by simp, by simp⟩ fun w8 v8 k8 => ?_
    refine KGO ?_
    refine Store.cellK (i := 0) (v3.keep k8 (fun e => ne23 e)) (by simp) (by rfl) ⟨rfl, by simp, by simp⟩ fun w9 v9 k9 => ?_
    have v8 := v8.keep k9 (fun e => ne23 e.symm)
    have v38 := v3.keep k8 (fun e => ne23 e)
    have hD9 := (hD.keep k8 (fun q e => by have e : q = r2 := e; subst e; exact v2.cellsE)).keep k9 (fun q e => by have e : q = r3 := e; subst e; exact v38.cellsE)
    have K9 : Kp w w9 n_ := (hK.trans k8 (fun i hi e => by have e : i = r2 := e; omega)).trans k9 (fun i hi e => by have e : i = r3 := e; omega)
    have hb8 := hb.keep k8 (fun q e => by have e : q = r2 := e; subst e; exact v2.foreign (by decide) (by decide) (by decide))
    have hb9 := hb8.keep k9 (fun q e => by have e : q = r3 := e; subst e; exact v38.foreign (by decide) (by decide) (by decide))
    refine KGO ?_
    refine ⟨hD9, fun wz kz => ?_⟩
    have az := (v8.keep kz (AllD.ne hD9 v8)).at
    have bz := (v9.keep kz (AllD.ne hD9 v9)).at
    have qz := Kp.refl wz n_
    have Kz : Kp w wz n_ := Kp.trans K9 kz (fun i hi e => by have := hDw i e; omega)
    refine GW ?_
    refine KGO ?_
    refine GW ?_
    refine KGO ?_
    refine GW ?_
    refine ⟨⟨nb, v, hs', rfl, hnbw, hb9.keep kz (fun q e cs T f ht => ?_)⟩, Kz⟩
    have := hD9.all q e
    rw [ht] at this; cases this
   ·rw [if_neg hdn] at hread
    rw [decide_eq_false hdn]
    rw [hread]
    refine KGO ?_
    refine Store.cellK (i := 0) v2 (by simp) (by rfl) ⟨rfl, by simp, by simp⟩ fun w8 v8 k8 => ?_
    refine KGO ?_
    refine Store.cellK (i := 0) (v3.keep k8 (fun e => ne23 e)) (by simp) (by rfl) ⟨rfl, by simp, by simp⟩ fun w9 v9 k9 => ?_
    have v8 := v8.keep k9 (fun e => ne23 e.symm)
    have hD9 := (hD.keep k8 (fun q e => by have e : q = r2 := e; subst e; exact v2.cellsE)).keep k9 (fun q e => by have e : q = r3 := e; subst e; exact (v3.keep k8 (fun e => ne23 e)).cellsE)
    have K9 : Kp w w9 n_ := (hK.trans k8 (fun i hi e => by have e : i = r2 := e; omega)).trans k9 (fun i hi e => by have e : i = r3 := e; omega)
    refine KGO ?_
    refine ⟨hD9, fun wz kz => ?_⟩
    have az := (v8.keep kz (AllD.ne hD9 v8)).at
    have bz := (v9.keep kz (AllD.ne hD9 v9)).at
    have qz := Kp.refl wz n_
    have Kz : Kp w wz n_ := Kp.trans K9 kz (fun i hi e => by have := hDw i e; omega)
    refine GW ?_
    refine KGO ?_
    refine GW ?_
    refine KGO ?_
    refine GW ?_
    exact ⟨rfl, Kz⟩
end
end Go.Proofs.YtcplagfblmemhaaGreatDoor
