/- Helper lemmas that the proved statement rests on; no conditions of their own. -/
import Derived.Test.YtmjeacpoobbjjaaGreatDoorHe5
set_option linter.unusedVariables false
set_option maxHeartbeats 8000000
set_option maxRecDepth 100000
namespace Go.Proofs.YtmjeacpoobbjjaaGreatDoor
open Go.Shelf Go.RowKit Go.Pw Go.Vc Go.Cs Go.Lib Go.Tk Go.Hd Go.Ty
def paC (x : List UInt8 × List UInt8) : List Value := [.string (str x.1), .string (str x.2)]
theorem lenPa (x : List UInt8 × List UInt8) : (paC x).length = 2 := rfl
theorem paInfo : (Tryz.prog.info? 94).map (fun i => (i.zero, i.size, i.bytes)) = some (some (.agg #[.string ⟨#[]⟩, .string ⟨#[]⟩]), 2, 32) := by kernel_rfl
theorem tyPa : RowTy 22 94 paC 2 32 := ⟨Tryz.underlying22, ⟨_, paInfo, rfl⟩, by decide, lenPa, fun x => List.all_eq_true.1 (by rfl)⟩
abbrev OwnPa (w : World) (B : Nat) (v : Value) (l : List (List UInt8 × List UInt8)) : Prop := OwnR 94 paC 2 w B v l
theorem bs1Pa (x : List UInt8 × List UInt8) (w : World) : (Instr.buildSlice 22 1 [(0, .agg #[.string (str x.1), .string (str x.2)])].toArray).run Tryz.prog w = .ok (.slice (some ⟨w.heap.size, 0, none⟩) 1 1) (w.alloc (.cells (List.toArray (paC x)) 94)) := by
 simp [Instr.buildSlice, go_sem, Tryz.runUnderlying22, paC]
theorem zjO (a b : ByteArray) (w : World) : (Instr.build 94 [(0, .string a), (1, .string b)].toArray).run Tryz.prog w = .ok (.agg #[.string a, .string b]) w := by
 simp [Instr.build, go_sem, Tryz.runUnderlying94]
theorem bs1Tx (x : List UInt8) (w : World) : (Instr.buildSlice 41 1 [(0, .string (str x))].toArray).run Tryz.prog w = .ok (.slice (some ⟨w.heap.size, 0, none⟩) 1 1) (w.alloc (.cells (List.toArray (txC x)) 9)) := by
 simp [Instr.buildSlice, go_sem, Tryz.runUnderlying41, txC]
def nsG (l : List (List UInt8)) : GM (List UInt8) := l.map fun x => (x, .bool true)
theorem zbE (k : List UInt8) : ∀ l, (nsG l).get k = if k ∈ l then some (.bool true) else none
 | [] => rfl
 | s :: r => by
  show GM.get ((s, .bool true) :: nsG r) k = _
  unfold GM.get
  by_cases h : k = s
  ·rw [if_pos h, if_pos (by rw [h]; exact List.mem_cons_self)]
  ·rw [if_neg h, zbE k r]
   by_cases h2 : k ∈ r
   ·rw [if_pos h2, if_pos (List.mem_cons_of_mem _ h2)]
   ·rw [if_neg h2, if_neg (fun e => by rcases List.mem_cons.1 e with e | e; exact h e; exact h2 e)]
theorem zcz {κ : Type} [DecidableEq κ] {k : κ} {x : Value} {m : GM κ} (h : m.get k = none) : m.put k x = m ++ [(k, x)] := by
 have h1 := GM.idx_get k m 0
 rw [h] at h1
 exact (GM.idx_none k m 0 (by cases hi : m.idx k 0 with | none => rfl | some a => rw [hi] at h1; cases h1)).2.1 x
theorem zlB (s p : List UInt8) : (Lib.cut s p).1.length + (Lib.cut s p).2.1.length ≤ s.length := by
 unfold Lib.cut
 split
 ·dsimp only; rw [List.length_take, List.length_drop]; omega
 ·exact Nat.le_refl _
theorem zdp : ∀ (l : List Tkn) (nm : List UInt8), (pairC nm l).1.length ≤ nm.length + (joinT l).length ∧ (pairC nm l).2.length ≤ (joinT l).length
 | [], nm => ⟨Nat.zero_le _, Nat.zero_le _⟩
 | t :: r, nm => by
  have hj : (joinT (t :: r)).length = t.2.length + (joinT r).length := by unfold joinT; rw [List.flatMap_cons, List.length_append]
  have hc := zlB t.2 [61]
  unfold pairC
  split
  ·have := zdp r (nm ++ t.2)
   rw [List.length_append] at this
   omega
  ·split
   ·dsimp only
    rw [zey, List.length_append]
    refine ⟨by omega, ?_⟩
    cases r with
    | nil => exact Nat.le_trans (zes _) (Nat.zero_le _)
    | cons u r =>
     have hj2 : (joinT (u :: r)).length = u.2.length + (joinT r).length := by unfold joinT; rw [List.flatMap_cons, List.length_append]
     have := zes u
     show (valueT u).length ≤ _
     omega
   ·dsimp only
    rw [zey, List.length_append, List.length_append]
    omega
section
variable {w : World}
structure LsI (w wr : World) (mp mf ms : Nat) (v : Value) (z : LSt) : Prop where
 k : Kp w wr n_
 p : GMap encSp wr mp (pmG z.p)
 f : GMap encSp wr mf (fmG z.f)
 s : GMap encS wr ms (nsG z.ns)
 ns : OwnT wr w.heap.size v z.ns
 sz : ∀ x ∈ z.p, x.2.length ≤ 1000000
theorem LsI.keep {wr w' : World} {mp mf ms : Nat} {v : Value} {z : LSt} (h : LsI w wr mp mf ms v z) (k : Kp wr w' n_) : LsI w w' mp mf ms v z :=
 ⟨h.k.trans0 k, h.p.keep k (fun e => e), h.f.keep k (fun e => e), h.s.keep k (fun e => e), zai h.ns k, h.sz⟩
theorem zkz : ∀ hs : List TR, hs.flatMap trC = hs.map (·.1.v)
 | [] => rfl
 | x :: r => by rw [List.flatMap_cons, List.map_cons, zkz r]; rfl
theorem zlQ (hs : List TR) (i : Nat) (h : i < hs.length) : (hs.flatMap trC)[i]? = some hs[i].1.v := by
 rw [zkz, List.getElem?_map, List.getElem?_eq_getElem h]; rfl
theorem zkU {p : PM} {k : Spt} {v : List UInt8} (h : lk p k = none) : (pmG p).put k (.string (str v)) = pmG (p ++ [(k, v)]) := by
 rw [zcz (by rw [zcG, h]; rfl)]; simp [pmG]
theorem ziE {f : FM} {k : Spt} {v : Bool} (h : lk f k = none) : (fmG f).put k (.bool v) = fmG (f ++ [(k, v)]) := by
 rw [zcz (by rw [zdg, h]; rfl)]; simp [fmG]
theorem zcw {l : List (List UInt8)} {k : List UInt8} (h : k ∉ l) : (nsG l).put k (.bool true) = nsG (l ++ [k]) := by
 rw [zcz (by rw [zbE, if_neg h])]; simp [nsG]
def SmR (r : List Tkn) : Prop := r.length ≤ 100000000 ∧ (joinT r).length ≤ 1000000
theorem zbG {α β : Type} (f : β → α → β) (b : β) (l : List α) (i : Nat) (h : i < l.length) : (l.take (i + 1)).foldl f b = f ((l.take i).foldl f b) l[i] := by
 rw [List.take_succ_eq_append_getElem h, List.foldl_append]; rfl
theorem zaq {κ : Type} [DecidableEq κ] {enc : κ → Value} {w : World} {B s n q : Nat} {E : TypeId} {v : Value} {xs : List Value} {m : GM κ} (h : w.ownsRow B E s v n xs) (hq : v.ownBlock = some q) (hm : GMap enc w q m) : False := by
 obtain ⟨cs, z, h1, _⟩ := zah h hq
 obtain ⟨es, cl, h2, _⟩ := hm
 rw [h1] at h2; cases h2
theorem zlv {v : Value} (l : List (List Tkn)) (hr : RowTT w v l) (hT : Tabs w) (hm : MaxL w) (hE : ErrL w) (hl : l.length ≤ 1000000) (hsm : ∀ r ∈ l, SmR r) : Calls Tryz.prog 80 #[v] w fun e w' => ∃ v', e = .returned v' ∧ OwnPa w' w.heap.size v' (listC l) ∧ Kp w w' n_ := by
  obtain ⟨hs, hrow, hcap, hml, hrs⟩ := hr
  have hll : hs.length = l.length := by rw [← hml, List.length_map]
  obtain ⟨a, cap, rfl, hrow⟩ := hrow
  rw [hll]
  refine zaa (args := [.slice a l.length cap]) Tryz.func80 rfl NL ?_; refine GW ?_
  refine RunV.makeMap rfl ?_
  have m1 : GMap encSp (w.alloc (.map #[] 0)) w.heap.size ([] : GM Spt) := GMap.new w
  have k1 : Kp w (w.alloc (.map #[] 0)) n_ := (Kp.refl _ _).alloc _
  have z1 : (w.alloc (.map #[] 0)).heap.size = w.heap.size + 1 := by simp
  obtain ⟨mp, hmp⟩ : ∃ b, b = w.heap.size := ⟨_, rfl⟩
  rw [← hmp] at m1 z1 ⊢
  generalize w.alloc (.map #[] 0) = w1 at *
  refine KGO ?_
  refine RunV.makeMap rfl ?_
  have m2 : GMap encSp (w1.alloc (.map #[] 0)) w1.heap.size ([] : GM Spt) := GMap.new w1
  have k2 : Kp w1 (w1.alloc (.map #[] 0)) n_ := (Kp.refl _ _).alloc _
  have z2 : (w1.alloc (.map #[] 0)).heap.size = w1.heap.size + 1 := by simp
  have m1 := m1.keep k2 fun h => h
  obtain ⟨mf, hmf⟩ : ∃ b, b = w1.heap.size := ⟨_, rfl⟩
  rw [← hmf] at m2 z2 ⊢
  generalize w1.alloc (.map #[] 0) = w2 at *
  refine KGO ?_
  refine RunV.makeMap rfl ?_
  have m3 : GMap encS (w2.alloc (.map #[] 0)) w2.heap.size ([] : GM (List UInt8)) := GMap.new w2
  have k3 : Kp w2 (w2.alloc (.map #[] 0)) n_ := (Kp.refl _ _).alloc _
  have m1 := m1.keep k3 fun h => h
  have m2 := m2.keep k3 fun h => h
  obtain ⟨ms, hms⟩ : ∃ b, b = w2.heap.size := ⟨_, rfl⟩
  rw [← hms] at m3 ⊢
  generalize w2.alloc (.map #[] 0) = w3 at *
  have hI0 : LsI w w3 mp mf ms (.slice none 0 0) ⟨[], [], []⟩ := ⟨(k1.trans0 k2).trans0 k3, m1, m2, m3, World.ownsRow_nil _ _ _ _, fun x hx => by cases hx⟩
  clear k1 k2 k3 m1 m2 m3
  refine KGO ?_
  refine Loop.intro (ι := Nat × Value) (fun i => [(3, .map (some mp)), (4, .map (some mf)), (5, i.2), (6, .map (some ms)), (25, .slice a l.length cap), (26, .int .i64 (l.length : Nat)), (27, .int .i64 (i.1 : Nat))])
    (fun i wr => LsI w wr mp mf ms i.2 ((l.take i.1).foldl stepC ⟨[], [], []⟩) ∧ i.1 ≤ l.length ∧ ((l.take i.1).foldl stepC ⟨[], [], []⟩).ns.length ≤ i.1) (fun i => l.length - i.1) (0, .slice none 0 0) ⟨rfl, rfl, rfl, rfl, rfl, rfl, rfl, trivial⟩
    ⟨hI0, Nat.zero_le _, Nat.le_refl _⟩ ?_
  clear hI0
  rintro ⟨i, vn⟩ g wr ⟨hI, hi, hnl⟩
  dsimp only at hI hi hnl ⊢
  obtain ⟨an, cn, rfl⟩ := zad hI.ns
  refine GW ?_
  by_cases hlt : i < l.length
  · rw [hll] at hrow
    have hft := zbG stepC ⟨[], [], []⟩ l i hlt
    generalize (l.take i).foldl stepC ⟨[], [], []⟩ = z at *
    have hnl2 : z.ns.length ≤ 1000000 := by omega
    obtain ⟨gb, o, rfl, hgb, hat⟩ := hrow (by omega)
    have hat := zar hat hI.k
    have q0 := Kp.refl wr n_
    have hx : l[i] = (hs[i]'(by omega)).2 := by simp only [← hml, List.getElem_map]
    obtain ⟨x, hxe⟩ : ∃ x : TR, x = hs[i]'(by omega) := ⟨_, rfl⟩
    rw [← hxe] at hx
    obtain ⟨hxr, hxc⟩ := hrs x (by rw [hxe]; exact List.getElem_mem _)
    have hxs := hsm l[i] (List.getElem_mem hlt)
    rw [hx] at hft hxs
    refine KGO ?_
    have hcx : wr.cell? ⟨gb, o + i, none⟩ = some x.1.v := hat i _ (by rw [zlQ hs i (by omega), hxe])
    refine Load.one (by rfl) hcx ?_
    refine KGO ?_
    refine CallS.of (Tryz.call112 _ _) (zkR (w := wr) x.2 (hxr.keep hI.k) hxc (hm.keep hI.k) hxs.1 (by have := hxs.2; omega)) ?_
    rintro e w4 ⟨rfl, k4⟩
    have I4 := hI.keep k4
    have hpl := zdp x.2 []
    have hst : stepC z x.2 = if (pairC [] x.2).1 = [] then z else
      ⟨if lk z.p (spotC (pairC [] x.2).1) = none then z.p ++ [(spotC (pairC [] x.2).1, (pairC [] x.2).2)] else z.p,
       if 0 ≤ (spotC (pairC [] x.2).1).2.1 ∧ lk z.f ((spotC (pairC [] x.2).1).1, (spotC (pairC [] x.2).1).2.1, false) = none then z.f ++ [(((spotC (pairC [] x.2).1).1, (spotC (pairC [] x.2).1).2.1, false), (spotC (pairC [] x.2).1).2.2)] else z.f,
       if (spotC (pairC [] x.2).1).1 ∈ z.ns then z.ns else z.ns ++ [(spotC (pairC [] x.2).1).1]⟩ := rfl
    have hxs2 := hxs.2
    generalize pairC [] x.2 = P at *
    obtain ⟨P1, P2⟩ := P
    rw [List.length_nil] at hpl
    dsimp only at hst hpl ⊢
    cases P1 with
    | nil =>
      rw [if_pos rfl] at hst
      refine RT ?_
      refine KGO ?_
      exact ⟨(i + 1, _), ⟨rfl, rfl, rfl, rfl, rfl, rfl, v_int (by simp), trivial⟩, ⟨by dsimp only; rw [hft, hst]; exact I4, hlt, by dsimp only; rw [hft, hst]; omega⟩, by dsimp only; omega⟩
    | cons c r =>
      rw [if_neg (by simp)] at hst
      refine RT ?_
      refine KGO ?_
      rw [decide_eq_false zbQ]
      refine KGO ?_
      refine CallS.of (Tryz.call113 _ _) (zkl (w := w4) (c :: r) (hE.keep I4.k) (by omega)) ?_
      rintro e w5 ⟨rfl, k5⟩
      have I5 := I4.keep k5
      generalize spotC (c :: r) = X at *
      refine RT ?_
      refine KGO ?_
      obtain ⟨a_b11, v_b11, k_w6, z_w6, r_w6⟩ := new5 w5 135 ([.string ⟨#[]⟩, .int .i64 0, .bool false])
      generalize w5.alloc (.cells (List.toArray ([.string ⟨#[]⟩, .int .i64 0, .bool false])) 135) = w6 at *
      generalize hs_b11 : w5.heap.size = b11 at *
      refine KGO ?_
      refine SVK (spC X) v_b11 fun w7 v7 k7 => ?_
      have I7 := I5.keep (zab k_w6 k7 (by omega))
      have hb11 : w.heap.size ≤ b11 := by have := I5.k.size; omega
      have hlt11 : mp < b11 ∧ mf < b11 ∧ ms < b11 ∧ mp < mf ∧ mf < ms := by
        have h1 := hI.p.lt
        have h2 := hI.f.lt
        have h3 := hI.s.lt
        have := k4.size
        have := k5.size
        omega
      have a7 := v7.at
      have q7 := Kp.refl w7 n_
      refine KGO ?_
      refine RunV.lookG2 keySp Tryz.underlying129 (by rfl) I7.p X rfl ?_
      rw [zcG]
      cases hl1 : lk z.p X with
      | none =>
        rw [if_pos hl1] at hst
        dsimp only [Option.map, Option.getD, Option.isSome]
        refine KGO ?_
        refine RunU.updG keySp Tryz.underlying129 I7.p X rfl _ fun w8 g8 k8 => ?_
        rw [zkU hl1] at g8
        have v8 := v7.keep k8 (fun e => by have e : b11 = mp := e; omega)
        have I8 : LsI w w8 mp mf ms (.slice an z.ns.length cn) ⟨z.p ++ [(X, P2)], z.f, z.ns⟩ :=
          ⟨zab I7.k k8 (by omega), g8, I7.f.keep k8 (fun e => by have e : mf = mp := e; omega), I7.s.keep k8 (fun e => by have e : ms = mp := e; omega), zaf I7.ns k8 (fun q hq e => by have e : q = mp := e; subst e; exact zaq I7.ns hq I7.p), fun y hy => by
            rcases List.mem_append.1 hy with hy | hy
            · exact I7.sz y hy
            · obtain rfl : y = (X, P2) := by simpa using hy
              dsimp only; omega⟩
        clear a7 q7
        have a8 := v8.at
        have q8 := Kp.refl w8 n_
        refine KGO ?_
        refine RunV.of (zcN (str X.1) X.2.1 _) ?_
        refine KGO ?_
        obtain ⟨a_b14, v_b14, k_wB, z_wB, r_wB⟩ := new5 w8 135 ([.string ⟨#[]⟩, .int .i64 0, .bool false])
        generalize w8.alloc (.cells (List.toArray ([.string ⟨#[]⟩, .int .i64 0, .bool false])) 135) = wB at *
        generalize hs_b14 : w8.heap.size = b14 at *
        have zB := (I8).k.size
        refine KGO ?_
        refine SVK (spC (X.1, X.2.1, false)) v_b14 fun wC vC kC => ?_
        have IC := (I8).keep (zab k_wB kC (by omega))
        have hvlt := (v8).lt
        have vX := ((v8).keep0 k_wB).keep kC (fun e => by have e : b11 = b14 := e; omega)
        have aK := vC.at
        have aX := vX.at
        have qC := Kp.refl wC n_
        refine KGO ?_
        by_cases hsec : 0 ≤ X.2.1
        · refine KGO ?_
          refine RunV.lookG2 keySp Tryz.underlying130 (by rfl) IC.f (X.1, X.2.1, false) rfl ?_
          rw [zdg]
          cases hl2 : lk z.f (X.1, X.2.1, false) with
          | none =>
            rw [if_pos ⟨hsec, hl2⟩] at hst
            dsimp only [Option.map, Option.getD, Option.isSome]
            refine KGO ?_
            refine RunU.updG keySp Tryz.underlying130 IC.f (X.1, X.2.1, false) rfl _ fun wD gD kD => ?_
            rw [ziE hl2] at gD
            have vD := vX.keep kD (fun e => by have e : b11 = mf := e; omega)
            have ID : LsI w wD mp mf ms (.slice an z.ns.length cn) ⟨(z.p ++ [(X, P2)]), z.f ++ [((X.1, X.2.1, false), X.2.2)], z.ns⟩ :=
              ⟨zab IC.k kD (by omega), IC.p.keep kD (fun e => by have e : mp = mf := e; omega), gD, IC.s.keep kD (fun e => by have e : ms = mf := e; omega), zaf IC.ns kD (fun q hq e => by have e : q = mf := e; subst e; exact zaq IC.ns hq IC.f), IC.sz⟩
            clear aK aX qC
            have aD := vD.at
            have qD := Kp.refl wD n_
            refine KGO ?_
            refine RunV.lookG keyStr Tryz.underlying131 (by rfl) (ID).s X.1 rfl ?_
            rw [zbE]
            by_cases hin : X.1 ∈ z.ns
            · rw [if_pos hin] at hst ⊢
              dsimp only [Option.getD]
              refine KGO ?_
              exact ⟨(i + 1, _), ⟨rfl, rfl, rfl, rfl, rfl, rfl, v_int (by simp), trivial⟩, ⟨by dsimp only; rw [hft, hst]; exact ID, hlt, by dsimp only; rw [hft, hst]; dsimp only; omega⟩, by dsimp only; omega⟩
            · rw [if_neg hin] at hst ⊢
              dsimp only [Option.getD]
              refine KGO ?_
              refine RunU.updG keyStr Tryz.underlying131 (ID).s X.1 rfl _ fun wE gE kE => ?_
              rw [zcw hin] at gE
              have vE := (vD).keep kE (fun e => by have e : b11 = ms := e; omega)
              have aE := vE.at
              have qE := Kp.refl wE n_
              have KE := zab (ID).k kE (by omega)
              have pE := (ID).p.keep kE (fun e => by have e : mp = ms := e; omega)
              have fE := (ID).f.keep kE (fun e => by have e : mf = ms := e; omega)
              have oE : OwnT wE w.heap.size (.slice an z.ns.length cn) z.ns := zaf (ID).ns kE (fun q hq e => by have e : q = ms := e; subst e; exact zaq (ID).ns hq (ID).s)
              have szE := (ID).sz
              refine KGO ?_
              refine RunV.of (bs1Tx X.1 _) ?_
              obtain ⟨a_b17, v_b17, k_wF, z_wF, r_wF⟩ := new5 wE 9 (txC X.1)
              generalize wE.alloc (.cells (List.toArray (txC X.1)) 9) = wF at *
              generalize hs_b17 : wE.heap.size = b17 at *
              refine KGO ?_
              refine tyT.app1 X.1 (zai oE k_wF) (by have := KE.size; omega) a_b17 (by omega) (by omega) fun vG wG oG kG => ?_
              have nm : ∀ (q : Nat), (Value.slice an z.ns.length cn).ownBlock = some q → q ≠ mp ∧ q ≠ mf ∧ q ≠ ms := fun q hq => ⟨fun e => by subst e; exact zaq oE hq pE, fun e => by subst e; exact zaq oE hq fE, fun e => by subst e; exact zaq oE hq gE⟩
              have IG : LsI w wG mp mf ms vG ⟨_, _, z.ns ++ [X.1]⟩ := ⟨(KE.trans0 k_wF).trans kG fun q hq e => by
                  obtain ⟨_, _, _, h3, _⟩ := zah oE e
                  omega, (pE.keep k_wF (fun e => e)).keep kG (fun e => (nm _ e).1 rfl), (fE.keep k_wF (fun e => e)).keep kG (fun e => (nm _ e).2.1 rfl), (gE.keep k_wF (fun e => e)).keep kG (fun e => (nm _ e).2.2 rfl), oG, szE⟩
              obtain ⟨aG, cG, rfl⟩ := zad oG
              refine KGO ?_
              exact ⟨(i + 1, _), ⟨rfl, rfl, rfl, rfl, rfl, rfl, v_int (by simp), trivial⟩, ⟨by dsimp only; rw [hft, hst]; exact IG, hlt, by dsimp only; rw [hft, hst]; dsimp only; rw [List.length_append, List.length_singleton]; omega⟩, by dsimp only; omega⟩
          | some vv2 =>
            rw [if_neg (fun e => by rw [hl2] at e; cases e.2)] at hst
            dsimp only [Option.map, Option.getD, Option.isSome]
            refine KGO ?_
            refine RunV.lookG keyStr Tryz.underlying131 (by rfl) (IC).s X.1 rfl ?_
            rw [zbE]
            by_cases hin : X.1 ∈ z.ns
            · rw [if_pos hin] at hst ⊢
              dsimp only [Option.getD]
              refine KGO ?_
              exact ⟨(i + 1, _), ⟨rfl, rfl, rfl, rfl, rfl, rfl, v_int (by simp), trivial⟩, ⟨by dsimp only; rw [hft, hst]; exact IC, hlt, by dsimp only; rw [hft, hst]; dsimp only; omega⟩, by dsimp only; omega⟩
            · rw [if_neg hin] at hst ⊢
              dsimp only [Option.getD]
              refine KGO ?_
              refine RunU.updG keyStr Tryz.underlying131 (IC).s X.1 rfl _ fun wE gE kE => ?_
              rw [zcw hin] at gE
              have vE := (vX).keep kE (fun e => by have e : b11 = ms := e; omega)
              have aE := vE.at
              have qE := Kp.refl wE n_
              have KE := zab (IC).k kE (by omega)
              have pE := (IC).p.keep kE (fun e => by have e : mp = ms := e; omega)
              have fE := (IC).f.keep kE (fun e => by have e : mf = ms := e; omega)
              have oE : OwnT wE w.heap.size (.slice an z.ns.length cn) z.ns := zaf (IC).ns kE (fun q hq e => by have e : q = ms := e; subst e; exact zaq (IC).ns hq (IC).s)
              have szE := (IC).sz
              refine KGO ?_
              refine RunV.of (bs1Tx X.1 _) ?_
              obtain ⟨a_b17, v_b17, k_wF, z_wF, r_wF⟩ := new5 wE 9 (txC X.1)
              generalize wE.alloc (.cells (List.toArray (txC X.1)) 9) = wF at *
              generalize hs_b17 : wE.heap.size = b17 at *
              refine KGO ?_
              refine tyT.app1 X.1 (zai oE k_wF) (by have := KE.size; omega) a_b17 (by omega) (by omega) fun vG wG oG kG => ?_
              have nm : ∀ (q : Nat), (Value.slice an z.ns.length cn).ownBlock = some q → q ≠ mp ∧ q ≠ mf ∧ q ≠ ms := fun q hq => ⟨fun e => by subst e; exact zaq oE hq pE, fun e => by subst e; exact zaq oE hq fE, fun e => by subst e; exact zaq oE hq gE⟩
              have IG : LsI w wG mp mf ms vG ⟨_, _, z.ns ++ [X.1]⟩ := ⟨(KE.trans0 k_wF).trans kG fun q hq e => by
                  obtain ⟨_, _, _, h3, _⟩ := zah oE e
                  omega, (pE.keep k_wF (fun e => e)).keep kG (fun e => (nm _ e).1 rfl), (fE.keep k_wF (fun e => e)).keep kG (fun e => (nm _ e).2.1 rfl), (gE.keep k_wF (fun e => e)).keep kG (fun e => (nm _ e).2.2 rfl), oG, szE⟩
              obtain ⟨aG, cG, rfl⟩ := zad oG
              refine KGO ?_
              exact ⟨(i + 1, _), ⟨rfl, rfl, rfl, rfl, rfl, rfl, v_int (by simp), trivial⟩, ⟨by dsimp only; rw [hft, hst]; exact IG, hlt, by dsimp only; rw [hft, hst]; dsimp only; rw [List.length_append, List.length_singleton]; omega⟩, by dsimp only; omega⟩
        · rw [if_neg (fun e => hsec e.1)] at hst
          refine KGO ?_
          refine RunV.lookG keyStr Tryz.underlying131 (by rfl) (IC).s X.1 rfl ?_
          rw [zbE]
          by_cases hin : X.1 ∈ z.ns
          · rw [if_pos hin] at hst ⊢
            dsimp only [Option.getD]
            refine KGO ?_
            exact ⟨(i + 1, _), ⟨rfl, rfl, rfl, rfl, rfl, rfl, v_int (by simp), trivial⟩, ⟨by dsimp only; rw [hft, hst]; exact IC, hlt, by dsimp only; rw [hft, hst]; dsimp only; omega⟩, by dsimp only; omega⟩
          · rw [if_neg hin] at hst ⊢
            dsimp only [Option.getD]
            refine KGO ?_
            refine RunU.updG keyStr Tryz.underlying131 (IC).s X.1 rfl _ fun wE gE kE => ?_
            rw [zcw hin] at gE
            have vE := (vX).keep kE (fun e => by have e : b11 = ms := e; omega)
            have aE := vE.at
            have qE := Kp.refl wE n_
            have KE := zab (IC).k kE (by omega)
            have pE := (IC).p.keep kE (fun e => by have e : mp = ms := e; omega)
            have fE := (IC).f.keep kE (fun e => by have e : mf = ms := e; omega)
            have oE : OwnT wE w.heap.size (.slice an z.ns.length cn) z.ns := zaf (IC).ns kE (fun q hq e => by have e : q = ms := e; subst e; exact zaq (IC).ns hq (IC).s)
            have szE := (IC).sz
            refine KGO ?_
            refine RunV.of (bs1Tx X.1 _) ?_
            obtain ⟨a_b17, v_b17, k_wF, z_wF, r_wF⟩ := new5 wE 9 (txC X.1)
            generalize wE.alloc (.cells (List.toArray (txC X.1)) 9) = wF at *
            generalize hs_b17 : wE.heap.size = b17 at *
            refine KGO ?_
            refine tyT.app1 X.1 (zai oE k_wF) (by have := KE.size; omega) a_b17 (by omega) (by omega) fun vG wG oG kG => ?_
            have nm : ∀ (q : Nat), (Value.slice an z.ns.length cn).ownBlock = some q → q ≠ mp ∧ q ≠ mf ∧ q ≠ ms := fun q hq => ⟨fun e => by subst e; exact zaq oE hq pE, fun e => by subst e; exact zaq oE hq fE, fun e => by subst e; exact zaq oE hq gE⟩
            have IG : LsI w wG mp mf ms vG ⟨_, _, z.ns ++ [X.1]⟩ := ⟨(KE.trans0 k_wF).trans kG fun q hq e => by
                obtain ⟨_, _, _, h3, _⟩ := zah oE e
                omega, (pE.keep k_wF (fun e => e)).keep kG (fun e => (nm _ e).1 rfl), (fE.keep k_wF (fun e => e)).keep kG (fun e => (nm _ e).2.1 rfl), (gE.keep k_wF (fun e => e)).keep kG (fun e => (nm _ e).2.2 rfl), oG, szE⟩
            obtain ⟨aG, cG, rfl⟩ := zad oG
            refine KGO ?_
            exact ⟨(i + 1, _), ⟨rfl, rfl, rfl, rfl, rfl, rfl, v_int (by simp), trivial⟩, ⟨by dsimp only; rw [hft, hst]; exact IG, hlt, by dsimp only; rw [hft, hst]; dsimp only; rw [List.length_append, List.length_singleton]; omega⟩, by dsimp only; omega⟩
      | some vv =>
        rw [if_neg (by rw [hl1]; simp)] at hst
        dsimp only [Option.map, Option.getD, Option.isSome]
        refine KGO ?_
        refine RunV.of (zcN (str X.1) X.2.1 _) ?_
        refine KGO ?_
        obtain ⟨a_b14, v_b14, k_wB, z_wB, r_wB⟩ := new5 w7 135 ([.string ⟨#[]⟩, .int .i64 0, .bool false])
        generalize w7.alloc (.cells (List.toArray ([.string ⟨#[]⟩, .int .i64 0, .bool false])) 135) = wB at *
        generalize hs_b14 : w7.heap.size = b14 at *
        have zB := (I7).k.size
        refine KGO ?_
        refine SVK (spC (X.1, X.2.1, false)) v_b14 fun wC vC kC => ?_
        have IC := (I7).keep (zab k_wB kC (by omega))
        have hvlt := (v7).lt
        have vX := ((v7).keep0 k_wB).keep kC (fun e => by have e : b11 = b14 := e; omega)
        have aK := vC.at
        have aX := vX.at
        have qC := Kp.refl wC n_
        refine KGO ?_
        by_cases hsec : 0 ≤ X.2.1
        · refine KGO ?_
          refine RunV.lookG2 keySp Tryz.underlying130 (by rfl) IC.f (X.1, X.2.1, false) rfl ?_
          rw [zdg]
          cases hl2 : lk z.f (X.1, X.2.1, false) with
          | none =>
            rw [if_pos ⟨hsec, hl2⟩] at hst
            dsimp only [Option.map, Option.getD, Option.isSome]
            refine KGO ?_
            refine RunU.updG keySp Tryz.underlying130 IC.f (X.1, X.2.1, false) rfl _ fun wD gD kD => ?_
            rw [ziE hl2] at gD
            have vD := vX.keep kD (fun e => by have e : b11 = mf := e; omega)
            have ID : LsI w wD mp mf ms (.slice an z.ns.length cn) ⟨z.p, z.f ++ [((X.1, X.2.1, false), X.2.2)], z.ns⟩ :=
              ⟨zab IC.k kD (by omega), IC.p.keep kD (fun e => by have e : mp = mf := e; omega), gD, IC.s.keep kD (fun e => by have e : ms = mf := e; omega), zaf IC.ns kD (fun q hq e => by have e : q = mf := e; subst e; exact zaq IC.ns hq IC.f), IC.sz⟩
            clear aK aX qC
            have aD := vD.at
            have qD := Kp.refl wD n_
            refine KGO ?_
            refine RunV.lookG keyStr Tryz.underlying131 (by rfl) (ID).s X.1 rfl ?_
            rw [zbE]
            by_cases hin : X.1 ∈ z.ns
            · rw [if_pos hin] at hst ⊢
              dsimp only [Option.getD]
              refine KGO ?_
              exact ⟨(i + 1, _), ⟨rfl, rfl, rfl, rfl, rfl, rfl, v_int (by simp), trivial⟩, ⟨by dsimp only; rw [hft, hst]; exact ID, hlt, by dsimp only; rw [hft, hst]; dsimp only; omega⟩, by dsimp only; omega⟩
            · rw [if_neg hin] at hst ⊢
              dsimp only [Option.getD]
              refine KGO ?_
              refine RunU.updG keyStr Tryz.underlying131 (ID).s X.1 rfl _ fun wE gE kE => ?_
              rw [zcw hin] at gE
              have vE := (vD).keep kE (fun e => by have e : b11 = ms := e; omega)
              have aE := vE.at
              have qE := Kp.refl wE n_
              have KE := zab (ID).k kE (by omega)
              have pE := (ID).p.keep kE (fun e => by have e : mp = ms := e; omega)
              have fE := (ID).f.keep kE (fun e => by have e : mf = ms := e; omega)
              have oE : OwnT wE w.heap.size (.slice an z.ns.length cn) z.ns := zaf (ID).ns kE (fun q hq e => by have e : q = ms := e; subst e; exact zaq (ID).ns hq (ID).s)
              have szE := (ID).sz
              refine KGO ?_
              refine RunV.of (bs1Tx X.1 _) ?_
              obtain ⟨a_b17, v_b17, k_wF, z_wF, r_wF⟩ := new5 wE 9 (txC X.1)
              generalize wE.alloc (.cells (List.toArray (txC X.1)) 9) = wF at *
              generalize hs_b17 : wE.heap.size = b17 at *
              refine KGO ?_
              refine tyT.app1 X.1 (zai oE k_wF) (by have := KE.size; omega) a_b17 (by omega) (by omega) fun vG wG oG kG => ?_
              have nm : ∀ (q : Nat), (Value.slice an z.ns.length cn).ownBlock = some q → q ≠ mp ∧ q ≠ mf ∧ q ≠ ms := fun q hq => ⟨fun e => by subst e; exact zaq oE hq pE, fun e => by subst e; exact zaq oE hq fE, fun e => by subst e; exact zaq oE hq gE⟩
              have IG : LsI w wG mp mf ms vG ⟨_, _, z.ns ++ [X.1]⟩ := ⟨(KE.trans0 k_wF).trans kG fun q hq e => by
                  obtain ⟨_, _, _, h3, _⟩ := zah oE e
                  omega, (pE.keep k_wF (fun e => e)).keep kG (fun e => (nm _ e).1 rfl), (fE.keep k_wF (fun e => e)).keep kG (fun e => (nm _ e).2.1 rfl), (gE.keep k_wF (fun e => e)).keep kG (fun e => (nm _ e).2.2 rfl), oG, szE⟩
              obtain ⟨aG, cG, rfl⟩ := zad oG
              refine KGO ?_
              exact ⟨(i + 1, _), ⟨rfl, rfl, rfl, rfl, rfl, rfl, v_int (by simp), trivial⟩, ⟨by dsimp only; rw [hft, hst]; exact IG, hlt, by dsimp only; rw [hft, hst]; dsimp only; rw [List.length_append, List.length_singleton]; omega⟩, by dsimp only; omega⟩
          | some vv2 =>
            rw [if_neg (fun e => by rw [hl2] at e; cases e.2)] at hst
            dsimp only [Option.map, Option.getD, Option.isSome]
            refine KGO ?_
            refine RunV.lookG keyStr Tryz.underlying131 (by rfl) (IC).s X.1 rfl ?_
            rw [zbE]
            by_cases hin : X.1 ∈ z.ns
            · rw [if_pos hin] at hst ⊢
              dsimp only [Option.getD]
              refine KGO ?_
              exact ⟨(i + 1, _), ⟨rfl, rfl, rfl, rfl, rfl, rfl, v_int (by simp), trivial⟩, ⟨by dsimp only; rw [hft, hst]; exact IC, hlt, by dsimp only; rw [hft, hst]; dsimp only; omega⟩, by dsimp only; omega⟩
            · rw [if_neg hin] at hst ⊢
              dsimp only [Option.getD]
              refine KGO ?_
              refine RunU.updG keyStr Tryz.underlying131 (IC).s X.1 rfl _ fun wE gE kE => ?_
              rw [zcw hin] at gE
              have vE := (vX).keep kE (fun e => by have e : b11 = ms := e; omega)
              have aE := vE.at
              have qE := Kp.refl wE n_
              have KE := zab (IC).k kE (by omega)
              have pE := (IC).p.keep kE (fun e => by have e : mp = ms := e; omega)
              have fE := (IC).f.keep kE (fun e => by have e : mf = ms := e; omega)
              have oE : OwnT wE w.heap.size (.slice an z.ns.length cn) z.ns := zaf (IC).ns kE (fun q hq e => by have e : q = ms := e; subst e; exact zaq (IC).ns hq (IC).s)
              have szE := (IC).sz
              refine KGO ?_
              refine RunV.of (bs1Tx X.1 _) ?_
              obtain ⟨a_b17, v_b17, k_wF, z_wF, r_wF⟩ := new5 wE 9 (txC X.1)
              generalize wE.alloc (.cells (List.toArray (txC X.1)) 9) = wF at *
              generalize hs_b17 : wE.heap.size = b17 at *
              refine KGO ?_
              refine tyT.app1 X.1 (zai oE k_wF) (by have := KE.size; omega) a_b17 (by omega) (by omega) fun vG wG oG kG => ?_
              have nm : ∀ (q : Nat), (Value.slice an z.ns.length cn).ownBlock = some q → q ≠ mp ∧ q ≠ mf ∧ q ≠ ms := fun q hq => ⟨fun e => by subst e; exact zaq oE hq pE, fun e => by subst e; exact zaq oE hq fE, fun e => by subst e; exact zaq oE hq gE⟩
              have IG : LsI w wG mp mf ms vG ⟨_, _, z.ns ++ [X.1]⟩ := ⟨(KE.trans0 k_wF).trans kG fun q hq e => by
                  obtain ⟨_, _, _, h3, _⟩ := zah oE e
                  omega, (pE.keep k_wF (fun e => e)).keep kG (fun e => (nm _ e).1 rfl), (fE.keep k_wF (fun e => e)).keep kG (fun e => (nm _ e).2.1 rfl), (gE.keep k_wF (fun e => e)).keep kG (fun e => (nm _ e).2.2 rfl), oG, szE⟩
              obtain ⟨aG, cG, rfl⟩ := zad oG
              refine KGO ?_
              exact ⟨(i + 1, _), ⟨rfl, rfl, rfl, rfl, rfl, rfl, v_int (by simp), trivial⟩, ⟨by dsimp only; rw [hft, hst]; exact IG, hlt, by dsimp only; rw [hft, hst]; dsimp only; rw [List.length_append, List.length_singleton]; omega⟩, by dsimp only; omega⟩
        · rw [if_neg (fun e => hsec e.1)] at hst
          refine KGO ?_
          refine RunV.lookG keyStr Tryz.underlying131 (by rfl) (IC).s X.1 rfl ?_
          rw [zbE]
          by_cases hin : X.1 ∈ z.ns
          · rw [if_pos hin] at hst ⊢
            dsimp only [Option.getD]
            refine KGO ?_
            exact ⟨(i + 1, _), ⟨rfl, rfl, rfl, rfl, rfl, rfl, v_int (by simp), trivial⟩, ⟨by dsimp only; rw [hft, hst]; exact IC, hlt, by dsimp only; rw [hft, hst]; dsimp only; omega⟩, by dsimp only; omega⟩
          · rw [if_neg hin] at hst ⊢
            dsimp only [Option.getD]
            refine KGO ?_
            refine RunU.updG keyStr Tryz.underlying131 (IC).s X.1 rfl _ fun wE gE kE => ?_
            rw [zcw hin] at gE
            have vE := (vX).keep kE (fun e => by have e : b11 = ms := e; omega)
            have aE := vE.at
            have qE := Kp.refl wE n_
            have KE := zab (IC).k kE (by omega)
            have pE := (IC).p.keep kE (fun e => by have e : mp = ms := e; omega)
            have fE := (IC).f.keep kE (fun e => by have e : mf = ms := e; omega)
            have oE : OwnT wE w.heap.size (.slice an z.ns.length cn) z.ns := zaf (IC).ns kE (fun q hq e => by have e : q = ms := e; subst e; exact zaq (IC).ns hq (IC).s)
            have szE := (IC).sz
            refine KGO ?_
            refine RunV.of (bs1Tx X.1 _) ?_
            obtain ⟨a_b17, v_b17, k_wF, z_wF, r_wF⟩ := new5 wE 9 (txC X.1)
            generalize wE.alloc (.cells (List.toArray (txC X.1)) 9) = wF at *
            generalize hs_b17 : wE.heap.size = b17 at *
            refine KGO ?_
            refine tyT.app1 X.1 (zai oE k_wF) (by have := KE.size; omega) a_b17 (by omega) (by omega) fun vG wG oG kG => ?_
            have nm : ∀ (q : Nat), (Value.slice an z.ns.length cn).ownBlock = some q → q ≠ mp ∧ q ≠ mf ∧ q ≠ ms := fun q hq => ⟨fun e => by subst e; exact zaq oE hq pE, fun e => by subst e; exact zaq oE hq fE, fun e => by subst e; exact zaq oE hq gE⟩
            have IG : LsI w wG mp mf ms vG ⟨_, _, z.ns ++ [X.1]⟩ := ⟨(KE.trans0 k_wF).trans kG fun q hq e => by
                obtain ⟨_, _, _, h3, _⟩ := zah oE e
                omega, (pE.keep k_wF (fun e => e)).keep kG (fun e => (nm _ e).1 rfl), (fE.keep k_wF (fun e => e)).keep kG (fun e => (nm _ e).2.1 rfl), (gE.keep k_wF (fun e => e)).keep kG (fun e => (nm _ e).2.2 rfl), oG, szE⟩
            obtain ⟨aG, cG, rfl⟩ := zad oG
            refine KGO ?_
            exact ⟨(i + 1, _), ⟨rfl, rfl, rfl, rfl, rfl, rfl, v_int (by simp), trivial⟩, ⟨by dsimp only; rw [hft, hst]; exact IG, hlt, by dsimp only; rw [hft, hst]; dsimp only; rw [List.length_append, List.length_singleton]; omega⟩, by dsimp only; omega⟩
  · generalize hz : (l.take i).foldl stepC ⟨[], [], []⟩ = z at *
    have hnl2 : z.ns.length ≤ 1000000 := by omega
    rw [List.take_of_length_le (by omega)] at hz
    have hli : listC l = z.ns.filterMap fun n => (valueC z.p z.f n).map fun v => (n, v) := by rw [← hz]; rfl
    rw [hli]
    have hp := hI.p
    have hf := hI.f
    obtain ⟨an2, cn2, hne, hnr⟩ := zap (cells := txC) hI.ns
    injection hne with hne1 _ hne2
    subst hne1; subst hne2
    refine KGO ?_
    refine Loop.intro (ι := Nat × Value) (fun i => [(3, .map (some mp)), (4, .map (some mf)), (17, i.2), (85, .slice an z.ns.length cn), (86, .int .i64 (z.ns.length : Nat)), (87, .int .i64 (i.1 : Nat))])
      (fun i wq => Kp wr wq n_ ∧ OwnPa wq wr.heap.size i.2 ((z.ns.take i.1).filterMap fun n => (valueC z.p z.f n).map fun v => (n, v)) ∧ i.1 ≤ z.ns.length ∧ ((z.ns.take i.1).filterMap fun n => (valueC z.p z.f n).map fun v => (n, v)).length ≤ i.1) (fun i => z.ns.length - i.1) (0, .slice none 0 0) ⟨rfl, rfl, rfl, rfl, rfl, rfl, trivial⟩
      ⟨Kp.refl _ _, World.ownsRow_nil _ _ _ _, Nat.zero_le _, Nat.le_refl _⟩ ?_
    rintro ⟨j, vo⟩ g2 wq ⟨hK, ho, hj, hjl⟩
    dsimp only at ho hj hjl ⊢
    obtain ⟨ao, co, rfl⟩ := zad ho
    refine GW ?_
    by_cases hjt : j < z.ns.length
    · obtain ⟨gn, on, rfl, hgn, hatn⟩ := hnr (by omega)
      have hcn := (hK.cell (p := ⟨gn, on + j, none⟩) hgn (fun e => e)).trans (zlR hatn hjt)
      have htk : (z.ns.take (j + 1)).filterMap (fun n => (valueC z.p z.f n).map fun v => (n, v)) = (z.ns.take j).filterMap (fun n => (valueC z.p z.f n).map fun v => (n, v)) ++ (match valueC z.p z.f z.ns[j] with | none => [] | some v => [(z.ns[j], v)]) := by
        rw [List.take_succ_eq_append_getElem hjt, List.filterMap_append]
        congr 1
        rw [List.filterMap_cons]
        cases valueC z.p z.f z.ns[j] <;> rfl
      refine KGO ?_
      generalize z.ns[j] = nm at *
      refine CallS.of (Tryz.call114 _ _) (zjV (w := wq) nm (hT.keep (hI.k.trans0 hK)) (hm.keep (hI.k.trans0 hK)) (hp.keep hK (fun e => e)) (hf.keep hK (fun e => e)) hI.sz) ?_
      rintro e w4 ⟨rfl, k4⟩
      have K4 := hK.trans0 k4
      have o4 := zai ho k4
      cases hvl : valueC z.p z.f nm with
      | none =>
        rw [hvl, List.append_nil] at htk
        unfold valV
        refine RT ?_
        refine KGO ?_
        exact ⟨(j + 1, _), ⟨rfl, rfl, rfl, rfl, rfl, v_int (by simp), trivial⟩, ⟨K4, by dsimp only; rw [htk]; exact o4, hjt, by dsimp only; rw [htk]; omega⟩, by dsimp only; omega⟩
      | some vv =>
        rw [hvl] at htk
        dsimp only at htk
        unfold valV
        refine RT ?_
        refine KGO ?_
        refine RunV.of (zjO (str nm) (str vv) _) ?_
        refine KGO ?_
        refine RunV.of (bs1Pa (nm, vv) _) ?_
        obtain ⟨a_b5, v_b5, k_w5, z_w5, r_w5⟩ := new5 w4 94 (paC (nm, vv))
        generalize w4.alloc (.cells (List.toArray (paC (nm, vv))) 94) = w5 at *
        generalize hs_b5 : w4.heap.size = b5 at *
        refine KGO ?_
        refine tyPa.app1 (nm, vv) (zai o4 k_w5) (by have := K4.size; omega) a_b5 (by omega) (by omega) fun v6 w6 o6 k6 => ?_
        have K6 : Kp wr w6 n_ := (K4.trans0 k_w5).trans k6 fun q hq e => by
          obtain ⟨_, _, _, h3, _⟩ := zah o4 e
          omega
        obtain ⟨a6, c6, rfl⟩ := zad o6
        refine KGO ?_
        exact ⟨(j + 1, _), ⟨rfl, rfl, rfl, rfl, rfl, v_int (by simp), trivial⟩, ⟨K6, by dsimp only; rw [htk]; exact o6, hjt, by dsimp only; rw [htk, List.length_append, List.length_singleton]; omega⟩, by dsimp only; omega⟩
    · rw [List.take_of_length_le (by omega)] at ho
      refine KGO ?_
      rw [List.take_of_length_le (by omega)]
      exact ⟨_, rfl, zan ho (by have := hI.k.size; omega), hI.k.trans0 hK⟩
end
end Go.Proofs.YtmjeacpoobbjjaaGreatDoor
