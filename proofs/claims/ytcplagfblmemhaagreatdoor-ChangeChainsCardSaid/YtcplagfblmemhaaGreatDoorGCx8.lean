/- Helper text of this claim: lemmas and contracts that the proved statement rests on; no conditions of its own. -/
import Derived.Test.YtcplagfblmemhaaGreatDoorGMapR
namespace Go.Proofs.YtcplagfblmemhaaGreatDoor
set_option linter.unusedVariables false
set_option maxHeartbeats 8000000
open Go.Shelf Go.RowKit Go.Pw Go.Vc Go.Cs Go.Lib Go.Cd Go.Cx
set_option linter.unusedVariables false
set_option maxRecDepth 100000
def gm (m : FM) : GM Key := m.map fun p => (p.1, encFt p.2)
theorem zoP (k : Key) : ∀ m : FM, (gm m).get k = (fget m k).map encFt
 | [] => rfl
 | (s, v) :: r => by
  show GM.get ((s, encFt v) :: gm r) k = _
  unfold GM.get fget
  split
  ·rfl
  ·exact zoP k r
theorem zmu (k : Key) (x : Bool × Bool) : ∀ m : FM, (gm m).put k (encFt x) = gm (fput m k x)
 | [] => rfl
 | (s, v) :: r => by
  show GM.put ((s, encFt v) :: gm r) k (encFt x) = _
  unfold GM.put fput
  split
  ·rfl
  ·rw [zmu k x r]; rfl
theorem zlX {w : World} {mb g i : Nat} {m : GM Key} {v : Value} (h : GMapO encTh w mb m) (hc : w.cell? ⟨g, i, none⟩ = some v) : g ≠ mb := fun e => by
 obtain ⟨es, cl, h1, _⟩ := h
 unfold World.cell? at hc
 simp only [e, h1] at hc
 cases hc
theorem znw (a b : Int) (w : World) : (Instr.build 81 [(0, .int .i64 a), (1, .int .i64 b)].toArray).run Tryz.prog w = .ok (.agg #[.int .i64 a, .int .i64 b]) w := by
 simp [Instr.build, Instr.fill, go_sem, Tryz.runUnderlying81]
theorem zgZ (a b : Bool) (w : World) : (Instr.build 83 [(0, .bool a), (1, .bool b)].toArray).run Tryz.prog w = .ok (.agg (ftC (a, b)).toArray) w := by
 simp [Instr.build, Instr.fill, go_sem, Tryz.runUnderlying83, ftC]
theorem bs3S (x y z : Sl) (w : World) : (Instr.buildSlice 85 3 [(0, x.v), (1, y.v), (2, z.v)].toArray).run Tryz.prog w = .ok (.slice (some ⟨w.heap.size, 0, none⟩) 3 3) (w.alloc (.cells (List.toArray [x.v, y.v, z.v]) 37)) := by
 obtain ⟨x1, x2, x3⟩ := x
 obtain ⟨y1, y2, y3⟩ := y
 obtain ⟨z1, z2, z3⟩ := z
 simp [Instr.buildSlice, Instr.fill, go_sem, Tryz.runUnderlying85, Sl.v]
def sI (b : Bool) (l : List Int) : List Int := if b then l.mergeSort (fun x y => decide (x ≤ y)) else l
def SinceOk (w w' : World) (d : Dlt × Int) (e : Ending) : Prop :=
 ∃ m c g : Sl, e = .returned (.tuple #[.agg #[m.v, c.v, g.v, .int .i64 d.1.state], .int .i64 d.2]) ∧ OwnI w' w.heap.size m.v d.1.made ∧ OwnI w' w.heap.size c.v d.1.changed ∧ OwnI w' w.heap.size g.v d.1.gone
theorem zma {f : Fr} {x : Operand} {w : World} {K : Value → World → Prop} {n c d : Nat} (hn : n = 0) (hc : c = 0) (hd : d = 0) (hx : ev f x = .int .i64 (d : Nat)) (k : K (.slice none 0 0) w) : RunV Tryz.prog (Instr.sliceAt 76 (.slice none n c) ((some x).map (ev f)) none none) w K := by
 subst hn; subst hc; subst hd
 exact znR tyCl hx k
section
variable {α : Type} {T E : TypeId} {c : α → List Value} {s bytes : Nat} {w : World} {K : Value → World → Prop} {B : Nat} {v : Value} {l : List α} {cs : Array Bool}
theorem RowTy.app1At (ty : RowTy T E c s bytes) {b cap : Nat} (x : α) (h : OwnR E c s w B v l) (hB : B ≤ w.heap.size) (hx : At w b 0 (c x)) (h63 : l.length + 1 ≤ 9223372036854775807) (hbytes : (l.length + 1) * bytes ≤ 140737488355328)
  (k : ∀ v' w', OwnR E c s w' B v' (l ++ [x]) → Kp w w' (own_ v) → (v'.ownBlock = v.ownBlock ∨ v'.ownBlock = some w.heap.size) → K v' w') : RunN Tryz.prog (builtin .append #[T, T] T cs [v, .slice (some ⟨b, 0, none⟩) 1 cap].toArray) w K := by
 obtain ⟨z, hb, hz⟩ := ty.hb
 obtain ⟨i, hi, hi2⟩ := Option.map_eq_some_iff.1 hb
 simp only [Prod.mk.injEq] at hi2
 obtain ⟨z1, z2, z3⟩ := hi2
 obtain ⟨v', w', h1, h2, h3, _, h5⟩ := run_append_own_at (P := Tryz.prog) w B T T E i z s bytes ty.ht hi z1 z2 z3 hz ty.hs v l.length _ h ⟨b, 0, none⟩ 1 cap (c x) (by rw [ty.len]; omega) (fun j u hj => by rw [add_none]; exact hx j u hj) (ty.one x) (by rw [show maxLen = 9223372036854775807 from rfl]; omega) hbytes hB
 have hk := Kp.ofGrown h3
 refine ⟨v', w', ?_, k v' w' ?_ ⟨hk.os, hk.tape, hk.output, hk.size, fun i hi hn => hk.block i hi fun e => hn e⟩ h5⟩
 ·show (do pure (Next.value (← Builtin.append_ #[T, T] T #[v, .slice (some ⟨b, 0, none⟩) 1 cap])) : Sem Next).run Tryz.prog _ = _
  simp [h1]
 ·unfold OwnR
  rw [List.length_append, List.flatMap_append]
  simpa using h2
end
theorem zjQ (k : Key) (x : Bool × Bool) : ∀ m : FM, (fput m k x).length ≤ m.length + 1
 | [] => by simp [fput]
 | (s, v) :: r => by
  unfold fput
  split
  ·simp
  ·have := zjQ k x r; simp; omega
theorem zmX (cs : List Chg) : (fates cs).length ≤ cs.length := by
 induction cs using snocInd with
 | h0 => simp [fates]
 | hs cs c ih => rw [zcW, List.length_append]; unfold stepF; exact Nat.le_trans (zjQ _ _ _) (Nat.succ_le_succ ih)
theorem zmj {α : Type} (n : Nat) : ∀ L : List (List α), (∀ l ∈ L, l.length ≤ n) → L.flatten.length ≤ L.length * n
 | [], _ => by simp
 | l :: L, h => by
  have h1 := h l List.mem_cons_self
  have h2 := zmj n L fun x hx => h x (List.mem_cons_of_mem _ hx)
  rw [List.flatten_cons, List.length_append, List.length_cons, Nat.succ_mul]; omega
theorem zaB (m : FM) (p : Key × (Bool × Bool)) (of : Int) (x : Bool × Bool) : gather (m ++ [p]) of x = if p.1.1 = of ∧ p.2 = x then gather m of x ++ [p.1.2] else gather m of x := by
 unfold gather
 rw [List.filter_append, List.map_append]
 by_cases h : p.1.1 = of ∧ p.2 = x
 ·rw [if_pos h, List.filter_cons, if_pos (by simp [h.1, h.2])]; rfl
 ·rw [if_neg h, List.filter_cons, if_neg (by simpa using h)]; simp
theorem zbs (m : FM) (of : Int) (x : Bool × Bool) : (gather m of x).length ≤ m.length := by
 unfold gather; rw [List.length_map]; exact List.length_filter_le _ _
theorem zba {v v' u : Value} {n : Nat} (ap : Apart v u) (b : v'.ownBlock = v.ownBlock ∨ v'.ownBlock = some n) (h : ∀ k, u.ownBlock = some k → k < n) : Apart v' u := fun k h1 h2 => by
 rcases b with b | b
 ·exact ap k (b ▸ h1) h2
 ·have := h k h2
  rw [h1] at b
  injection b with b
  omega
theorem zat {v u : Value} (ap : Apart v u) : Apart u v := fun k h1 h2 => ap k h2 h1
theorem zcP {α : Type} {pre fa fb base : List α} {p : α} (h : (pre ++ (fa ++ p :: fb)).Perm base) : ((pre ++ [p]) ++ (fa ++ fb)).Perm base := by
 rw [List.append_assoc, List.singleton_append]
 exact (List.Perm.append_left pre List.perm_middle.symm).trans h
structure SinG (w4 : World) (of : Int) (db rb mb : Nat) (base pre left : FM) (m c g : Sl) (w : World) : Prop where
 ke : Kp w4 w (two_ db rb)
 pe : (pre ++ left).Perm base
 ra : GRange encTh w mb rb (gm left)
 va : VarK w db 39 [m.v, c.v, g.v, .int .i64 0]
 om : OwnI w w4.heap.size m.v (gather pre of (false, true))
 oc : OwnI w w4.heap.size c.v (gather pre of (true, true))
 og : OwnI w w4.heap.size g.v (gather pre of (true, false))
 mc : Apart m.v c.v
 mg : Apart m.v g.v
 cg : Apart c.v g.v
theorem ziL (a b : Int) : (a != b) = decide (a ≠ b) := by
 by_cases h : a = b <;> simp [h]
section
variable {w : World}
theorem zaW {B b : Nat} {v : Sl} {hs : List Sl} {k : Bk} (h : BkAt w B b v hs k) (hsm : ∀ l ∈ k.notes, l.length ≤ 1000) (st of : Int) (hst : -9223372036854775808 ≤ st ∧ st ≤ 9223372036854775807) :
  Calls Tryz.prog 9 #[.pointer (some ⟨b, 0, none⟩), .int .i64 st, .int .i64 of] w fun e w' => SinceOk w w' (sinceA k st of) e ∧ Kp w w' n_ := by
 have hn := zcc h.own
 have g := h.good
 have g1 := g.ns; have g2 := g.s0; have g3 := g.s1; have g4 := g.nk; have g5 := g.k1; have g6 := g.k0
 obtain ⟨a, n, c⟩ := v
 obtain rfl : n = hs.length := hn
 have hl := h.hl
 have ha : At w b 0 [.int .i64 k.state, .int .i64 k.kept, .slice a hs.length c] := h.var.at
 have hown : w.ownsRow B 53 1 (.slice a hs.length c) hs.length (hs.flatMap shC) := h.own
 have hfd : firstA k = k.state - hs.length := by unfold firstA; omega
 refine zaa (args := [.pointer (some ⟨b, 0, none⟩), .int .i64 st, .int .i64 of]) Tryz.func9 rfl NL ?_; refine GW ?_
 have vd := VarK.new w 39 [.slice none 0 0, .slice none 0 0, .slice none 0 0, .int .i64 0]
 have kd : Kp w (w.alloc (.cells (List.toArray [.slice none 0 0, .slice none 0 0, .slice none 0 0, .int .i64 0]) 39)) n_ := (Kp.refl _ _).alloc _
 generalize w.alloc (.cells (List.toArray [.slice none 0 0, .slice none 0 0, .slice none 0 0, .int .i64 0]) 39) = wd at *
 obtain ⟨db, hdb⟩ : ∃ db, w.heap.size = db := ⟨_, rfl⟩
 rw [hdb] at vd ⊢
 have ad := vd.at
 have qd := Kp.refl wd n_
 unfold sinceA
 by_cases h1 : of < 1 ∨ 3 < of
 ·rw [if_pos h1]
  rcases h1 with h1 | h1
  ·refine KGO ?_
   refine Store.varK [.slice none 0 0, .slice none 0 0, .slice none 0 0, .int .i64 0] vd (by rfl) rfl (zam (by rfl)) fun we ve ke => ?_
   have ae := ve.at
   have qe := Kp.refl we n_
   refine KGO ?_
   refine GW ?_
   exact ⟨⟨⟨none, 0, 0⟩, ⟨none, 0, 0⟩, ⟨none, 0, 0⟩, rfl, World.ownsRow_nil _ _ _ _, World.ownsRow_nil _ _ _ _, World.ownsRow_nil _ _ _ _⟩, kd.trans ke (fun i hi e => by have e : i = db := e; omega)⟩
  ·refine KGO ?_
   refine Store.varK [.slice none 0 0, .slice none 0 0, .slice none 0 0, .int .i64 0] vd (by rfl) rfl (zam (by rfl)) fun we ve ke => ?_
   have ae := ve.at
   have qe := Kp.refl we n_
   refine KGO ?_
   refine GW ?_
   exact ⟨⟨⟨none, 0, 0⟩, ⟨none, 0, 0⟩, ⟨none, 0, 0⟩, rfl, World.ownsRow_nil _ _ _ _, World.ownsRow_nil _ _ _ _, World.ownsRow_nil _ _ _ _⟩, kd.trans ke (fun i hi e => by have e : i = db := e; omega)⟩
 rw [if_neg h1]
 by_cases h2 : k.state < st
 ·rw [if_pos h2]
  have ab := zaf ha kd
  refine KGO ?_
  refine Store.varK [.slice none 0 0, .slice none 0 0, .slice none 0 0, .int .i64 0] vd (by rfl) rfl (zam (by rfl)) fun we ve ke => ?_
  have ae := ve.at
  have qe := Kp.refl we n_
  refine KGO ?_
  refine GW ?_
  exact ⟨⟨⟨none, 0, 0⟩, ⟨none, 0, 0⟩, ⟨none, 0, 0⟩, rfl, World.ownsRow_nil _ _ _ _, World.ownsRow_nil _ _ _ _, World.ownsRow_nil _ _ _ _⟩, kd.trans ke (fun i hi e => by have e : i = db := e; omega)⟩
 rw [if_neg h2]
 have hbd := h.keep0 kd
 have ab := zaf ha kd
 refine KGO ?_
 refine CallS.of (Tryz.call20 _ _) (zdz hbd) ?_
 rintro e w1 ⟨rfl, k1⟩
 refine RT ?_
 have vd := vd.keep0 k1
 have kd := kd.trans0 k1
 have ad := vd.at
 have qd := Kp.refl w1 n_
 by_cases h3 : st < firstA k
 ·rw [if_pos h3]
  refine KGO ?_
  refine Store.varK [.slice none 0 0, .slice none 0 0, .slice none 0 0, .int .i64 0] vd (by rfl) rfl (zam (by rfl)) fun we ve ke => ?_
  have ae := ve.at
  have qe := Kp.refl we n_
  refine KGO ?_
  refine GW ?_
  exact ⟨⟨⟨none, 0, 0⟩, ⟨none, 0, 0⟩, ⟨none, 0, 0⟩, rfl, World.ownsRow_nil _ _ _ _, World.ownsRow_nil _ _ _ _, World.ownsRow_nil _ _ _ _⟩, kd.trans ke (fun i hi e => by have e : i = db := e; omega)⟩
 rw [if_neg h3]
 refine KGO ?_
 refine RunV.makeMap rfl ?_
 have hm := GMapO.new (enc := encTh) w1
 have km : Kp w1 (w1.alloc (.map #[] 0)) n_ := (Kp.refl _ _).alloc _
 generalize w1.alloc (.map #[] 0) = w2 at *
 obtain ⟨mb, hmb⟩ : ∃ mb, w1.heap.size = mb := ⟨_, rfl⟩
 rw [hmb] at hm ⊢
 have K2 := kd.trans0 km
 have h2' := h.keep0 K2
 have ab2 := zaf ha K2
 refine KGO ?_
 obtain ⟨d, hd⟩ : ∃ d, (st - firstA k).toNat = d := ⟨_, rfl⟩
 have hdi : st - firstA k = (d : Int) := by omega
 have hdl : d ≤ hs.length := by omega
 rw [hd]
 refine Draw.cut (ι := Option Addr × Nat) (fun i => [(0, .pointer (some ⟨b, 0, none⟩)), (2, .int .i64 of), (6, .pointer (some ⟨db, 0, none⟩)), (8, .map (some mb)), (51, .slice i.1 (hs.length - d) i.2), (52, .int .i64 ((hs.length - d : Nat) : Int)), (53, .int .i64 0)])
  (fun i wr => Kp w2 wr n_ ∧ RowO wr (.slice i.1 (hs.length - d) i.2) shC (hs.drop d)) ?_ ?_
 ·refine Draw.held (fun u => Kp w2 u n_) (fun _ => true) (by decide +kernel) (Kp.refl _ _).drew ?_
  rcases own_blockK hown with ⟨e0, h0⟩ | ⟨g', cap, cells, e0, hB', hv', hnc, hcm, hcl, htk⟩
  ·obtain rfl : a = none := by injection e0
   have hd0 : d = 0 := by omega
   refine KGO ?_
   refine CallS.of (Tryz.call20 _ _) (zdz (h2'.keep0 (Kp.refl w2 n_).drew)) ?_
   rintro e w3 ⟨rfl, k3⟩
   refine RT ?_
   have K3 : Kp w2 w3 n_ := (Kp.refl w2 n_).drew.trans0 k3
   refine ⟨K3, ?_⟩
   refine KGO ?_
   rw [hdi]
   have hc0 : c = 0 := by injection e0
   refine zma h0 hc0 hd0 rfl ?_
   refine GW ?_
   refine KGO ?_
   refine ⟨⟨(none, 0), ⟨rfl, rfl, rfl, rfl, congrArg (fun n => Value.slice none n 0) (by omega), v_int (by omega), rfl, trivial⟩, K3, ⟨none, 0, by rw [List.length_drop], fun hp => absurd hp (by rw [List.length_drop]; omega)⟩⟩⟩
  ·obtain rfl : a = some ⟨g', 0, none⟩ := by injection e0
   refine KGO ?_
   refine CallS.of (Tryz.call20 _ _) (zdz (h2'.keep0 (Kp.refl w2 n_).drew)) ?_
   rintro e w3 ⟨rfl, k3⟩
   refine RT ?_
   have K3 : Kp w2 w3 n_ := (Kp.refl w2 n_).drew.trans0 k3
   refine ⟨K3, ?_⟩
   refine KGO ?_
   rw [hdi]
   have hcc : c = cap := by injection e0
   refine Cut.fromI (l := (d : Int)) (by omega) (by omega) (by omega) ?_
   refine GW ?_
   refine KGO ?_
   have htn : (d : Int).toNat = d := by omega
   rw [htn]
   refine ⟨⟨(some ⟨g', if d = c then 0 else 0 + d * 1, none⟩, c - d), ⟨rfl, rfl, rfl, rfl, rfl, rfl, rfl, trivial⟩, K3, ⟨_, _, by rw [List.length_drop], fun hp => ⟨g', 0 + d * 1, ?_, ?_, ?_⟩⟩⟩⟩
   ·rw [List.length_drop] at hp
    rw [if_neg (by omega)]
   ·have := hv'.lt; have := kd.size; have := km.size; have := K3.size; omega
   ·obtain ⟨g2', e1, _, _, hat⟩ := zcI hown (by rw [List.length_drop] at hp; omega)
    injection e1 with e1; injection e1 with e1
    subst e1
    exact zaf (zgI (s := 1) lenCl hat d) (K2.trans0 K3)
 ·rintro ⟨a2, c2⟩ gg w3 ⟨K3, hrow⟩
  refine GW ?_
  have hm3 := hm.keep K3 (fun e => e)
  have h3b := h.keep0 (K2.trans0 K3)
  obtain ⟨nts, hnts⟩ : ∃ nts, k.notes.drop d = nts := ⟨_, rfl⟩
  rw [hnts]
  have hnl : nts.length = hs.length - d := by rw [← hnts, List.length_drop, hl]
  have hrl : (hs.drop d).length = hs.length - d := List.length_drop
  refine Loop.intro (ι := Nat) (fun i => [(0, .pointer (some ⟨b, 0, none⟩)), (2, .int .i64 of), (6, .pointer (some ⟨db, 0, none⟩)), (8, .map (some mb)), (51, .slice a2 (hs.length - d) c2), (52, .int .i64 ((hs.length - d : Nat) : Int)), (53, .int .i64 (i : Nat))])
   (fun i wr => Kp w3 wr (one_ mb) ∧ i ≤ nts.length ∧ GMapO encTh wr mb (gm (fates (nts.take i).flatten))) (fun i => nts.length - i) 0 ⟨rfl, rfl, rfl, rfl, rfl, rfl, rfl, trivial⟩ ⟨Kp.refl _ _, by omega, hm3⟩ ?_
  rintro i gf wr ⟨hK, hi, hmr⟩
  refine GW ?_
  by_cases hlt : i < nts.length
  ·obtain ⟨a2', c2', e2, hr2⟩ := hrow
   injection e2 with e21 e22 e23
   subst e21; subst e23
   obtain ⟨gb, ob, rfl, hgb, hat⟩ := hr2 (by omega)
   have hid : d + i < hs.length := by omega
   have hca : w3.cell? ⟨gb, ob + i, none⟩ = some (.slice hs[d + i].a hs[d + i].n hs[d + i].c) := hat i _ (by rw [zjy]; simp [hid])
   have hgm := zlX hm3 hca
   have hcr : wr.cell? ⟨gb, ob + i, none⟩ = some (.slice hs[d + i].a hs[d + i].n hs[d + i].c) := (hK.cell (by exact hgb) (by exact hgm)).trans hca
   have hrx := h3b.row (d + i) hid
   obtain ⟨nt, hnt⟩ : ∃ nt, nts[i] = nt := ⟨_, rfl⟩
   have hnt2 : k.notes[d + i]'(by omega) = nt := by subst hnts; simp only [List.getElem_drop] at hnt; exact hnt
   rw [hnt2] at hrx
   have hxn := zcc hrx
   obtain ⟨x, hx⟩ : ∃ x, hs[d + i] = x := ⟨_, rfl⟩
   rw [hx] at hrx hxn hcr
   obtain ⟨xa, xn, xc⟩ := x
   obtain rfl : xn = nt.length := hxn
   have hrx : w3.ownsRow B 66 3 (.slice xa nt.length xc) nt.length (nt.flatMap chC) := hrx
   have hntl : nt.length ≤ 1000 := hsm nt (by rw [← hnt2]; exact List.getElem_mem _)
   have htk : nts.take (i + 1) = nts.take i ++ [nt] := by rw [← hnt]; exact List.take_succ_eq_append_getElem hlt
   refine KGO ?_
   refine Loop.intro (ι := Nat) (fun j => [(0, .pointer (some ⟨b, 0, none⟩)), (2, .int .i64 of), (6, .pointer (some ⟨db, 0, none⟩)), (8, .map (some mb)), (51, .slice (some ⟨gb, ob, none⟩) (hs.length - d) c2), (52, .int .i64 ((hs.length - d : Nat) : Int)), (53, .int .i64 (i : Nat)), (57, .slice xa nt.length xc), (58, .int .i64 (nt.length : Nat)), (59, .int .i64 (j : Nat))])
    (fun j wq => Kp w3 wq (one_ mb) ∧ j ≤ nt.length ∧ GMapO encTh wq mb (gm (fates ((nts.take i).flatten ++ nt.take j)))) (fun j => nt.length - j) 0 ⟨rfl, rfl, rfl, rfl, rfl, rfl, rfl, rfl, rfl, rfl, trivial⟩ ⟨hK, by omega, by simpa using hmr⟩ ?_
   rintro j gg wq ⟨hKq, hj, hmq⟩
   refine GW ?_
   by_cases hlj : j < nt.length
   ·obtain ⟨gx, e1, _, hgx, hatx⟩ := zcI hrx (by omega)
    subst e1
    have hatq : At wq gx 0 (nt.flatMap chC) := by
     intro q u hq
     have h1 := hatx q u hq
     exact (hKq.cell (by exact hgx) (by exact zlX hm3 h1)).trans h1
    have qq := Kp.refl wq n_
    have hsn : (nts.take i).flatten ++ nt.take (j + 1) = ((nts.take i).flatten ++ nt.take j) ++ [nt[j]] := by rw [List.take_succ_eq_append_getElem hlj, List.append_assoc]
    obtain ⟨pre, hpre⟩ : ∃ pre, (nts.take i).flatten ++ nt.take j = pre := ⟨_, rfl⟩
    rw [hpre] at hmq hsn
    refine KGO ?_
    refine Store.fresh (vs := chC nt[j]) (by rfl) rfl (zam (by rfl)) ?_
    obtain ⟨a_bc, k_wa, z_wa⟩ := new3 wq 66 (chC nt[j])
    generalize wq.alloc (.cells (List.toArray (chC nt[j])) 66) = wa at *
    generalize hs_bc : wq.heap.size = bc at *
    refine KGO ?_
    refine RunV.of (znw _ _ _) ?_
    refine KGO ?_
    refine Store.fresh (vs := thC (keyC nt[j])) (by rfl) rfl (zam (by rfl)) ?_
    obtain ⟨a_bk, k_wb, z_wb⟩ := new3 wa 81 (thC (keyC nt[j]))
    generalize wa.alloc (.cells (List.toArray (thC (keyC nt[j]))) 81) = wb at *
    generalize hs_bk : wa.heap.size = bk at *
    have hmb : GMapO encTh wb mb (gm (fates pre)) := hmq.keep (k_wa.trans0 k_wb) (fun e => e)
    have acb := zaf a_bc k_wb
    refine KGO ?_
    refine RunV.lookG2 keyTh Tryz.underlying79 (Tryz.zeroValue83 _) hmb.g (keyC nt[j]) rfl ?_
    rw [zoP]
    have hstep : fates (pre ++ [nt[j]]) = fput (fates pre) (keyC nt[j]) (match fget (fates pre) (keyC nt[j]) with | none => decide (nt[j].what ≠ 1) | some p => p.1, decide (nt[j].what ≠ 3)) := by rw [zcW]; rfl
    have mbq : mb < wq.heap.size := (hmq.g).lt
    cases hf : fget (fates pre) (keyC nt[j]) with
    | none =>
     rw [hf] at hstep
     simp only [Option.map_none, Option.getD_none, Option.isSome_none]
     refine KGO ?_
     have vf := VarK.new wb 83 [.bool false, .bool false]
     refine Store.fresh (vs := [.bool false, .bool false]) (by rfl) rfl (zam (by rfl)) ?_
     obtain ⟨a_bf, k_wc, z_wc⟩ := new3 wb 83 ([.bool false, .bool false])
     generalize wb.alloc (.cells (List.toArray ([.bool false, .bool false])) 83) = wc at *
     generalize hs_bf : wb.heap.size = bf at *
     have acc := zaf acb k_wc
     have akc := zaf a_bk k_wc
     have hmc := hmb.keep k_wc (fun e => e)
     refine KGO ?_
     rw [ziL]
     refine Store.cellK (i := 0) vf (by simp) (by rfl) ⟨rfl, by simp, by simp⟩ fun wd vfd kfd => ?_
     have acd := zav acc kfd (fun e => by have e : bc = bf := e; omega)
     have akd := zav akc kfd (fun e => by have e : bk = bf := e; omega)
     have hmd := hmc.keep kfd (fun e => by have e : mb = bf := e; omega)
     have qd := Kp.refl wd n_
     refine KGO ?_
     rw [ziL]
     refine Store.cellK (i := 1) vfd (by simp) (by rfl) ⟨rfl, by simp, by simp⟩ fun we vfe kfe => ?_
     have ace := zav acd kfe (fun e => by have e : bc = bf := e; omega)
     have ake := zav akd kfe (fun e => by have e : bk = bf := e; omega)
     have hme := hmd.keep kfe (fun e => by have e : mb = bf := e; omega)
     have afe := vfe.at
     have qe := Kp.refl we n_
     refine KGO ?_
     refine RunU.updGO keyTh Tryz.underlying79 hme (keyC nt[j]) rfl _ fun wg hmg kug => ?_
     have hmg : GMapO encTh wg mb ((gm (fates pre)).put (keyC nt[j]) (encFt (decide (nt[j].what ≠ 1), decide (nt[j].what ≠ 3)))) := hmg
     rw [zmu, ← hstep, ← hsn] at hmg
     refine KGO ?_
     have Kall : Kp w3 wg (one_ mb) := (((((hKq.trans0 k_wa).trans0 k_wb).trans0 k_wc).trans kfd (fun i hi e => by have e : i = bf := e; have := hKq.size; omega)).trans kfe (fun i hi e => by have e : i = bf := e; have := hKq.size; omega)).trans' kug
     exact ⟨j + 1, ⟨rfl, rfl, rfl, rfl, rfl, rfl, rfl, rfl, rfl, v_int (by simp), trivial⟩, ⟨Kall, by omega, hmg⟩, by dsimp only; omega⟩
    | some p =>
     rw [hf] at hstep
     simp only [Option.map_some, Option.getD_some, Option.isSome_some]
     refine KGO ?_
     have vf := VarK.new wb 83 (ftC p)
     refine Store.fresh (vs := ftC p) (by rfl) rfl (zam (by rfl)) ?_
     obtain ⟨a_bf, k_wc, z_wc⟩ := new3 wb 83 (ftC p)
     generalize wb.alloc (.cells (List.toArray (ftC p)) 83) = wc at *
     generalize hs_bf : wb.heap.size = bf at *
     have acc := zaf acb k_wc
     have akc := zaf a_bk k_wc
     have hmc := hmb.keep k_wc (fun e => e)
     have kfd : Kp wc wc (one_ bf) := Kp.refl _ _
     obtain ⟨p1, p2⟩ := p
     obtain ⟨wd, hwd⟩ : ∃ wd, wc = wd := ⟨_, rfl⟩
     have vfd : VarK wd bf 83 [.bool p1, .bool p2] := by rw [← hwd]; exact vf
     rw [hwd] at kfd ⊢
     subst hwd
     have acd := zav acc kfd (fun e => by have e : bc = bf := e; omega)
     have akd := zav akc kfd (fun e => by have e : bk = bf := e; omega)
     have hmd := hmc.keep kfd (fun e => by have e : mb = bf := e; omega)
     have qd := Kp.refl wc n_
     refine KGO ?_
     rw [ziL]
     refine Store.cellK (i := 1) vfd (by simp) (by rfl) ⟨rfl, by simp, by simp⟩ fun we vfe kfe => ?_
     have ace := zav acd kfe (fun e => by have e : bc = bf := e; omega)
     have ake := zav akd kfe (fun e => by have e : bk = bf := e; omega)
     have hme := hmd.keep kfe (fun e => by have e : mb = bf := e; omega)
     have afe := vfe.at
     have qe := Kp.refl we n_
     refine KGO ?_
     refine RunU.updGO keyTh Tryz.underlying79 hme (keyC nt[j]) rfl _ fun wg hmg kug => ?_
     have hmg : GMapO encTh wg mb ((gm (fates pre)).put (keyC nt[j]) (encFt (p1, decide (nt[j].what ≠ 3)))) := hmg
     rw [zmu, ← hstep, ← hsn] at hmg
     refine KGO ?_
     have Kall : Kp w3 wg (one_ mb) := (((((hKq.trans0 k_wa).trans0 k_wb).trans0 k_wc).trans kfd (fun i hi e => by have e : i = bf := e; have := hKq.size; omega)).trans kfe (fun i hi e => by have e : i = bf := e; have := hKq.size; omega)).trans' kug
     exact ⟨j + 1, ⟨rfl, rfl, rfl, rfl, rfl, rfl, rfl, rfl, rfl, v_int (by simp), trivial⟩, ⟨Kall, by omega, hmg⟩, by dsimp only; omega⟩
   ·refine KGO ?_
    have hjn : j = nt.length := by omega
    subst hjn
    rw [List.take_length] at hmq
    exact ⟨i + 1, ⟨rfl, rfl, rfl, rfl, rfl, rfl, v_int (by simp), trivial⟩, ⟨hKq, by omega, by rw [htk]; simpa using hmq⟩, by dsimp only; omega⟩
  ·have hii : i = nts.length := by omega
   subst hii
   rw [List.take_length] at hmr
   refine KGO ?_
   refine RunV.rangeG Tryz.underlying79 hmr fun w4 hgr k4 z4 => ?_
   obtain ⟨rb, hrb⟩ : ∃ rb, wr.heap.size = rb := ⟨_, rfl⟩
   rw [hrb] at hgr ⊢
   refine KGO ?_
   have hbase : (fates nts.flatten).length ≤ 256000 := by
    have h1 := zmX nts.flatten
    have h2 := zmj 1000 nts fun l hl => hsm l (by rw [← hnts] at hl; exact List.mem_of_mem_drop hl)
    omega
   have vd4 : VarK w4 db 39 [.slice none 0 0, .slice none 0 0, .slice none 0 0, .int .i64 0] := (((vd.keep0 km).keep0 K3).keep hK (fun e => by have e : db = mb := e; have := vd.lt; omega)).keep0 k4
   obtain ⟨base, hbs⟩ : ∃ base, fates nts.flatten = base := ⟨_, rfl⟩
   rw [hbs] at hgr hbase
   have nilA : ∀ u, Apart (.slice none 0 0) u := fun u k hk => by cases hk
   have hdr : db ≠ rb := by have := vd.lt; have := km.size; have := K3.size; have := hK.size; omega
   have hmr2 : mb ≠ rb := by have := hm.g.lt; have := K3.size; have := hK.size; omega
   have hdm : db ≠ mb := by have := vd.lt; omega
   have hrs : rb < w4.heap.size := by omega
   have hds : db < w4.heap.size := vd4.lt
   refine Loop.intro (ι := FM × FM × Sl × Sl × Sl) (fun _ => [(0, .pointer (some ⟨b, 0, none⟩)), (2, .int .i64 of), (6, .pointer (some ⟨db, 0, none⟩)), (90, .pointer (some ⟨rb, 0, none⟩))])
    (fun i wr => SinG w4 of db rb mb base i.1 i.2.1 i.2.2.1 i.2.2.2.1 i.2.2.2.2 wr) (fun i => i.2.1.length) ([], base, ⟨none, 0, 0⟩, ⟨none, 0, 0⟩, ⟨none, 0, 0⟩) ⟨rfl, rfl, rfl, rfl, trivial⟩
    ⟨Kp.refl _ _, List.Perm.refl _, hgr, vd4, World.ownsRow_nil _ _ _ _, World.ownsRow_nil _ _ _ _, World.ownsRow_nil _ _ _ _, nilA _, nilA _, nilA _⟩ ?_
   rintro ⟨pre, left, m, cc, g2⟩ gf5 w5 ⟨s1, s2, s3, s4, s5, s6, s7, s8, s9, s10⟩
   dsimp only at s1 s2 s3 s4 s5 s6 s7 s8 s9 s10
   refine GW ?_
   refine KGO ?_
   refine RunV.nextG s3 (fun hl w6 k6 z6 => ?_) (fun pa q po w6 hl hr6 k6 z6 hent => ?_)
   ·have v6 := s4.keep0 k6
    have a6 := v6.at
    have q6 := Kp.refl w6 n_
    have m6 := zab s5 k6
    have c6 := zab s6 k6
    have g6 := zab s7 k6
    have hl0 : left = [] := by unfold gm at hl; exact List.map_eq_nil_iff.1 hl
    subst hl0
    rw [List.append_nil] at s2
    have hpl : pre.length ≤ 256000 := by have := s2.length_eq; omega
    have hgl := fun x => zbs pre of x
    refine KGO ?_
    refine RunV.of (bs3S m cc g2 _) ?_
    have vl := VarK.new w6 37 [m.v, cc.v, g2.v]
    have k7 : Kp w6 (w6.alloc (.cells (List.toArray [m.v, cc.v, g2.v]) 37)) n_ := (Kp.refl _ _).alloc _
    generalize w6.alloc (.cells (List.toArray [m.v, cc.v, g2.v]) 37) = w7 at vl k7 ⊢
    obtain ⟨lb, hlb⟩ : ∃ lb, w6.heap.size = lb := ⟨_, rfl⟩
    rw [hlb] at vl ⊢
    have v7 := v6.keep0 k7
    have m7 := zab m6 k7
    have c7 := zab c6 k7
    have g7 := zab g6 k7
    have lk : w4.heap.size ≤ lb := by have := s1.size; have := k6.size; omega
    have bd : ∀ {u : Value} {L : List Int}, OwnI w6 w4.heap.size u L → ∀ q, u.ownBlock = some q → w4.heap.size ≤ q ∧ q < lb := fun h q hq => by have := h.lt q hq; omega
    have bm := bd m6
    have bc := bd c6
    have bg := bd g6
    clear bd
    refine KGO ?_
    refine Loop.intro (ι := Nat) (fun i => [(0, .pointer (some ⟨b, 0, none⟩)), (6, .pointer (some ⟨db, 0, none⟩)), (140, .slice (some ⟨lb, 0, none⟩) 3 3), (141, .int .i64 3), (142, .int .i64 (i : Nat))])
     (fun i wr => i ≤ 3 ∧ Kp w7 wr (fun q => w4.heap.size ≤ q ∧ q < lb) ∧ OwnI wr w4.heap.size m.v (sI (decide (0 < i)) (gather pre of (false, true))) ∧ OwnI wr w4.heap.size cc.v (sI (decide (1 < i)) (gather pre of (true, true))) ∧ OwnI wr w4.heap.size g2.v (sI (decide (2 < i)) (gather pre of (true, false)))) (fun i => 3 - i) 0 ⟨rfl, rfl, rfl, rfl, rfl, trivial⟩ ⟨by omega, Kp.refl _ _, m7, c7, g7⟩ ?_
    rintro i gf7 w8 ⟨hi3, K8, m8, c8, g8⟩
    have v8 := v7.keep K8 (fun e => by have := e.1; omega)
    have l8 := vl.keep K8 (fun e => by have := e.2; omega)
    have al8 := l8.at
    have a8 := v8.at
    have q8 := Kp.refl w8 n_
    refine GW ?_
    have hi4 : i = 0 ∨ i = 1 ∨ i = 2 ∨ i = 3 := by omega
    rcases hi4 with rfl | rfl | rfl | rfl
    ·refine KGO ?_
     have hcall := srt_I (w := w8) (B := w4.heap.size) (v := m.v) (gather pre of (false, true)) m8 (Nat.le_trans (hgl _) (by omega))
     refine CallS.of (Tryz.call24 _ _) hcall ?_
     rintro e w9 ⟨rfl, o9, k9⟩
     refine RT ?_
     refine KGO ?_
     exact ⟨1, ⟨rfl, rfl, rfl, rfl, rfl, trivial⟩, ⟨by omega, K8.trans' (k9.mono fun q _ h => bm q h), o9, zaD c8 k9 (zat s8), zaD g8 k9 (zat s9)⟩, by dsimp only; omega⟩
    ·refine KGO ?_
     have hcall := srt_I (w := w8) (B := w4.heap.size) (v := cc.v) (gather pre of (true, true)) c8 (Nat.le_trans (hgl _) (by omega))
     refine CallS.of (Tryz.call24 _ _) hcall ?_
     rintro e w9 ⟨rfl, o9, k9⟩
     refine RT ?_
     refine KGO ?_
     exact ⟨2, ⟨rfl, rfl, rfl, rfl, rfl, trivial⟩, ⟨by omega, K8.trans' (k9.mono fun q _ h => bc q h), zaD m8 k9 (s8), o9, zaD g8 k9 (zat s10)⟩, by dsimp only; omega⟩
    ·refine KGO ?_
     have hcall := srt_I (w := w8) (B := w4.heap.size) (v := g2.v) (gather pre of (true, false)) g8 (Nat.le_trans (hgl _) (by omega))
     refine CallS.of (Tryz.call24 _ _) hcall ?_
     rintro e w9 ⟨rfl, o9, k9⟩
     refine RT ?_
     refine KGO ?_
     exact ⟨3, ⟨rfl, rfl, rfl, rfl, rfl, trivial⟩, ⟨by omega, K8.trans' (k9.mono fun q _ h => bg q h), zaD m8 k9 (s9), zaD c8 k9 (s10), o9⟩, by dsimp only; omega⟩
    ·have szw : w.heap.size ≤ w1.heap.size := kd.size
     have szm := km.size
     have sz3 := K3.size
     have szr := hK.size
     have mbw : w.heap.size ≤ mb := by omega
     have szd : w.heap.size ≤ w4.heap.size := by omega
     have Kw4 : Kp w w4 n_ := ((K2.trans0 K3).trans hK (fun i hi e => by have e : i = mb := e; omega)).trans0 k4
     have Kw : Kp w w8 n_ := ((((Kw4.trans s1 (fun i hi e => by rcases e with e | e <;> omega)).trans0 k6).trans0 k7).trans K8 (fun i hi e => by have := e.1; omega))
     have ab8 := zaf ha Kw
     refine KGO ?_
     refine Store.cellK (i := 3) v8 (by simp) (by rfl) ⟨rfl, by simp, by simp⟩ fun w9 v9 k9 => ?_
     have a9 := v9.at
     have q9 := Kp.refl w9 n_
     refine KGO ?_
     refine Store.varK [m.v, cc.v, g2.v, .int .i64 k.state] v9 (by rfl) rfl (zam (by rfl)) fun w10 v10 k10 => ?_
     have a10 := v10.at
     have q10 := Kp.refl w10 n_
     refine KGO ?_
     refine GW ?_
     have s2' : pre.Perm (fates nts.flatten) := by rw [hbs]; exact s2
     have m8 : OwnI w8 w4.heap.size m.v ((gather pre of (false, true)).mergeSort fun x y => decide (x ≤ y)) := m8
     have c8 : OwnI w8 w4.heap.size cc.v ((gather pre of (true, true)).mergeSort fun x y => decide (x ≤ y)) := c8
     have g8 : OwnI w8 w4.heap.size g2.v ((gather pre of (true, false)).mergeSort fun x y => decide (x ≤ y)) := g8
     rw [zkK s2'] at m8 c8 g8
     have fin : ∀ {u : Value} {L : List Int}, OwnI w8 w4.heap.size u L → OwnI w10 w.heap.size u L := fun h => zaj (zad (zad h k9 fun q hq e => by have e : q = db := e; have := (h.lt q hq).1; omega) k10 fun q hq e => by have e : q = db := e; have := (h.lt q hq).1; omega) szd
     exact ⟨⟨m, cc, g2, rfl, fin m8, fin c8, fin g8⟩, (Kw.trans k9 (fun i hi e => by have e : i = db := e; omega)).trans k10 (fun i hi e => by have e : i = db := e; omega)⟩
   ·obtain ⟨fa, ff, rfl, hfa, hff⟩ := List.map_eq_append_iff.1 hl
    obtain ⟨p, fb, rfl, hp, hfb⟩ := List.map_eq_cons_iff.1 hff
    subst hfa; subst hfb; subst hp
    have hr6 : GRange encTh w6 mb rb (gm (fa ++ fb)) := by unfold gm; rw [List.map_append]; exact hr6
    have v6 := s4.keep k6 (fun e => hdr e)
    have s6s := s1.size
    have ob : ∀ {u : Value} {L : List Int}, OwnI w5 w4.heap.size u L → OwnI w6 w4.heap.size u L := fun h => zad h k6 fun q hq e => by have e : q = rb := e; have := (h.lt q hq).1; omega
    have m6 := ob s5
    have c6 := ob s6
    have g6 := ob s7
    clear ob
    obtain ⟨⟨p1, p2⟩, pf1, pf2⟩ := p
    refine KGO ?_
    refine RunV.of hent ?_
    refine KGO ?_
    have va := VarK.new w6 81 [.int .i64 0, .int .i64 0]
    have ka : Kp w6 (w6.alloc (.cells (List.toArray [.int .i64 0, .int .i64 0]) 81)) n_ := (Kp.refl _ _).alloc _
    have za : (w6.alloc (.cells (List.toArray [.int .i64 0, .int .i64 0]) 81)).heap.size = w6.heap.size + 1 := by simp
    generalize w6.alloc (.cells (List.toArray [.int .i64 0, .int .i64 0]) 81) = wa at va ka za ⊢
    obtain ⟨kb, hkb⟩ : ∃ kb, w6.heap.size = kb := ⟨_, rfl⟩
    rw [hkb] at va za ⊢
    have vb := VarK.new wa 83 [.bool false, .bool false]
    have kb' : Kp wa (wa.alloc (.cells (List.toArray [.bool false, .bool false]) 83)) n_ := (Kp.refl _ _).alloc _
    generalize wa.alloc (.cells (List.toArray [.bool false, .bool false]) 83) = wb at vb kb' ⊢
    rw [za] at vb ⊢
    refine Store.varK [.int .i64 p1, .int .i64 p2] (va.keep0 kb') (by rfl) rfl (zam (by rfl)) fun wc vc kc => ?_
    refine KGO ?_
    refine Store.varK [.bool pf1, .bool pf2] (vb.keep kc (fun e => by have e : kb + 1 = kb := e; omega)) (by rfl) rfl (zam (by rfl)) fun wd vt kd2 => ?_
    have vk := vc.keep kd2 (fun e => by have e : kb = kb + 1 := e; omega)
    have J : Kp w6 wd n_ := ((ka.trans0 kb').trans kc (fun i hi e => by have e : i = kb := e; omega)).trans kd2 (fun i hi e => by have e : i = kb + 1 := e; omega)
    clear va vb ka kb' za vc kc kd2
    have v7 := v6.keep0 J
    have a7 := v7.at
    have at7 := vt.at
    have ak7 := vk.at
    have q7 := Kp.refl wd n_
    have m7 := zab m6 J
    have c7 := zab c6 J
    have g7 := zab g6 J
    have r7 := hr6.keep J (fun e => e) (fun e => e)
    clear hr6 m6 c6 g6 v6 s3 s4 s5 s6 s7
    have J0 : Kp w4 wd (two_ db rb) := (s1.trans' (k6.mono fun q _ h => .inr h)).trans0 J
    have hpl : pre.length ≤ 256000 := by have := s2.length_eq; simp at this; omega
    have hmbs : mb < w4.heap.size := by have := hgr.lt; omega
    by_cases ho : p1 = of
    ·refine KGO ?_
     refine RunV.of (zgZ _ _ _) ?_
     refine KGO ?_
     refine eqlFt (pf1, pf2) (false, true) _ _ ?_
     refine KGO ?_
     by_cases hx : (pf1, pf2) = (false, true)
     ·refine KGO ?_
      refine RunV.of (bs1I _ _) ?_
      have kE : Kp wd (wd.alloc (.cells (List.toArray (inC p2)) 3)) n_ := (Kp.refl _ _).alloc _
      have hE := (VarK.new wd 3 (inC p2)).at
      generalize wd.alloc (.cells (List.toArray (inC p2)) 3) = we at kE hE ⊢
      refine KGO ?_
      refine tyI.app1At p2 (zab m7 kE) (Nat.le_trans J0.size kE.size) hE (by have := zbs pre of (false, true); omega) (by have := zbs pre of (false, true); omega) fun v8 wf oF kF bF => ?_
      obtain ⟨a8, c8, rfl⟩ : ∃ x y, v8 = .slice x (gather pre of (false, true) ++ [p2]).length y := zac oF
      have vF := (v7.keep0 kE).keep kF (fun e => by have := (m7.lt db e).1; omega)
      refine KGO ?_
      refine Store.cellK (i := 0) vF (by simp) (by rfl) ⟨rfl, by simp, by simp⟩ fun wg vg kG => ?_
      refine KGO ?_
      have KG : Kp wd wg (fun q => m.v.ownBlock = some q ∨ q = db) := ((kE.of_none).trans' (kF.mono fun q _ h => .inl h)).trans' (kG.mono fun q _ h => .inr h)
      exact ⟨(pre ++ [((p1, p2), pf1, pf2)], fa ++ fb, ⟨a8, _, c8⟩, cc, g2), ⟨rfl, rfl, rfl, rfl, trivial⟩, ⟨(zaZ (zab m7 kE) kF (J0.trans0 kE) (Nat.le_refl _)).trans' (kG.mono fun q _ h => .inl h), zcP s2, r7.keep KG (fun e => by rcases e with e | e; exact absurd (m7.lt mb e).1 (by omega); omega) (fun e => by rcases e with e | e; exact absurd (m7.lt rb e).1 (by omega); omega), vg, by rw [zaB, if_pos ⟨ho, hx⟩]; exact zad oF kG (fun q hq e => by have e : q = db := e; have := (oF.lt q hq).1; omega), by rw [zaB, if_neg (fun e => by have := hx.symm.trans e.2; cases this)]; exact zad (zaD (zab c7 kE) kF (zat s8)) kG (fun q hq e => by have e : q = db := e; have := (c7.lt q hq).1; omega), by rw [zaB, if_neg (fun e => by have := hx.symm.trans e.2; cases this)]; exact zad (zaD (zab g7 kE) kF (zat s9)) kG (fun q hq e => by have e : q = db := e; have := (g7.lt q hq).1; omega), zba (s8) bF (fun q hq => Nat.lt_of_lt_of_le (c7.lt q hq).2 kE.size), zba (s9) bF (fun q hq => Nat.lt_of_lt_of_le (g7.lt q hq).2 kE.size), s10⟩, by dsimp only; simp⟩
     ·have h1 := hx
      clear hx
      refine KGO ?_
      refine RunV.of (zgZ _ _ _) ?_
      refine KGO ?_
      refine eqlFt (pf1, pf2) (true, true) _ _ ?_
      refine KGO ?_
      by_cases hx : (pf1, pf2) = (true, true)
      ·refine KGO ?_
       refine RunV.of (bs1I _ _) ?_
       have kE : Kp wd (wd.alloc (.cells (List.toArray (inC p2)) 3)) n_ := (Kp.refl _ _).alloc _
       have hE := (VarK.new wd 3 (inC p2)).at
       generalize wd.alloc (.cells (List.toArray (inC p2)) 3) = we at kE hE ⊢
       refine KGO ?_
       refine tyI.app1At p2 (zab c7 kE) (Nat.le_trans J0.size kE.size) hE (by have := zbs pre of (true, true); omega) (by have := zbs pre of (true, true); omega) fun v8 wf oF kF bF => ?_
       obtain ⟨a8, c8, rfl⟩ : ∃ x y, v8 = .slice x (gather pre of (true, true) ++ [p2]).length y := zac oF
       have vF := (v7.keep0 kE).keep kF (fun e => by have := (c7.lt db e).1; omega)
       refine KGO ?_
       refine Store.cellK (i := 1) vF (by simp) (by rfl) ⟨rfl, by simp, by simp⟩ fun wg vg kG => ?_
       refine KGO ?_
       have KG : Kp wd wg (fun q => cc.v.ownBlock = some q ∨ q = db) := ((kE.of_none).trans' (kF.mono fun q _ h => .inl h)).trans' (kG.mono fun q _ h => .inr h)
       exact ⟨(pre ++ [((p1, p2), pf1, pf2)], fa ++ fb, m, ⟨a8, _, c8⟩, g2), ⟨rfl, rfl, rfl, rfl, trivial⟩, ⟨(zaZ (zab c7 kE) kF (J0.trans0 kE) (Nat.le_refl _)).trans' (kG.mono fun q _ h => .inl h), zcP s2, r7.keep KG (fun e => by rcases e with e | e; exact absurd (c7.lt mb e).1 (by omega); omega) (fun e => by rcases e with e | e; exact absurd (c7.lt rb e).1 (by omega); omega), vg, by rw [zaB, if_neg (fun e => by have := hx.symm.trans e.2; cases this)]; exact zad (zaD (zab m7 kE) kF (s8)) kG (fun q hq e => by have e : q = db := e; have := (m7.lt q hq).1; omega), by rw [zaB, if_pos ⟨ho, hx⟩]; exact zad oF kG (fun q hq e => by have e : q = db := e; have := (oF.lt q hq).1; omega), by rw [zaB, if_neg (fun e => by have := hx.symm.trans e.2; cases this)]; exact zad (zaD (zab g7 kE) kF (zat s10)) kG (fun q hq e => by have e : q = db := e; have := (g7.lt q hq).1; omega), zat (zba (zat s8) bF (fun q hq => Nat.lt_of_lt_of_le (m7.lt q hq).2 kE.size)), s9, zba (s10) bF (fun q hq => Nat.lt_of_lt_of_le (g7.lt q hq).2 kE.size)⟩, by dsimp only; simp⟩
      ·have h2 := hx
       clear hx
       refine KGO ?_
       refine RunV.of (zgZ _ _ _) ?_
       refine KGO ?_
       refine eqlFt (pf1, pf2) (true, false) _ _ ?_
       refine KGO ?_
       by_cases hx : (pf1, pf2) = (true, false)
       ·refine KGO ?_
        refine RunV.of (bs1I _ _) ?_
        have kE : Kp wd (wd.alloc (.cells (List.toArray (inC p2)) 3)) n_ := (Kp.refl _ _).alloc _
        have hE := (VarK.new wd 3 (inC p2)).at
        generalize wd.alloc (.cells (List.toArray (inC p2)) 3) = we at kE hE ⊢
        refine KGO ?_
        refine tyI.app1At p2 (zab g7 kE) (Nat.le_trans J0.size kE.size) hE (by have := zbs pre of (true, false); omega) (by have := zbs pre of (true, false); omega) fun v8 wf oF kF bF => ?_
        obtain ⟨a8, c8, rfl⟩ : ∃ x y, v8 = .slice x (gather pre of (true, false) ++ [p2]).length y := zac oF
        have vF := (v7.keep0 kE).keep kF (fun e => by have := (g7.lt db e).1; omega)
        refine KGO ?_
        refine Store.cellK (i := 2) vF (by simp) (by rfl) ⟨rfl, by simp, by simp⟩ fun wg vg kG => ?_
        refine KGO ?_
        have KG : Kp wd wg (fun q => g2.v.ownBlock = some q ∨ q = db) := ((kE.of_none).trans' (kF.mono fun q _ h => .inl h)).trans' (kG.mono fun q _ h => .inr h)
        exact ⟨(pre ++ [((p1, p2), pf1, pf2)], fa ++ fb, m, cc, ⟨a8, _, c8⟩), ⟨rfl, rfl, rfl, rfl, trivial⟩, ⟨(zaZ (zab g7 kE) kF (J0.trans0 kE) (Nat.le_refl _)).trans' (kG.mono fun q _ h => .inl h), zcP s2, r7.keep KG (fun e => by rcases e with e | e; exact absurd (g7.lt mb e).1 (by omega); omega) (fun e => by rcases e with e | e; exact absurd (g7.lt rb e).1 (by omega); omega), vg, by rw [zaB, if_neg (fun e => by have := hx.symm.trans e.2; cases this)]; exact zad (zaD (zab m7 kE) kF (s9)) kG (fun q hq e => by have e : q = db := e; have := (m7.lt q hq).1; omega), by rw [zaB, if_neg (fun e => by have := hx.symm.trans e.2; cases this)]; exact zad (zaD (zab c7 kE) kF (s10)) kG (fun q hq e => by have e : q = db := e; have := (c7.lt q hq).1; omega), by rw [zaB, if_pos ⟨ho, hx⟩]; exact zad oF kG (fun q hq e => by have e : q = db := e; have := (oF.lt q hq).1; omega), s8, zat (zba (zat s9) bF (fun q hq => Nat.lt_of_lt_of_le (m7.lt q hq).2 kE.size)), zat (zba (zat s10) bF (fun q hq => Nat.lt_of_lt_of_le (c7.lt q hq).2 kE.size))⟩, by dsimp only; simp⟩
       ·refine KGO ?_
        exact ⟨(pre ++ [((p1, p2), pf1, pf2)], fa ++ fb, m, cc, g2), ⟨rfl, rfl, rfl, rfl, trivial⟩, ⟨J0, zcP s2, r7, v7, by rw [zaB, if_neg (fun e => h1 e.2)]; exact m7, by rw [zaB, if_neg (fun e => h2 e.2)]; exact c7, by rw [zaB, if_neg (fun e => hx e.2)]; exact g7, s8, s9, s10⟩, by dsimp only; simp⟩
    ·refine KGO ?_
     exact ⟨(pre ++ [((p1, p2), pf1, pf2)], fa ++ fb, m, cc, g2), ⟨rfl, rfl, rfl, rfl, trivial⟩, ⟨J0, zcP s2, r7, v7, by rw [zaB, if_neg (fun e => ho e.1)]; exact m7, by rw [zaB, if_neg (fun e => ho e.1)]; exact c7, by rw [zaB, if_neg (fun e => ho e.1)]; exact g7, s8, s9, s10⟩, by dsimp only; simp⟩
end
end Go.Proofs.YtcplagfblmemhaaGreatDoor
namespace Go.Cx
set_option linter.unusedVariables false
set_option maxHeartbeats 8000000
open Go.Cs Go.Lib Go.Cd
set_option linter.unusedVariables false
theorem zog (cs : List Chg) (c : Chg) (of : Int) : idsA (cs ++ [c]) of = if c.of = of then putS (idsA cs of) c.id else idsA cs of := by
 unfold idsA
 rw [List.filter_append]
 by_cases h : c.of = of
 ·rw [if_pos h, List.filter_cons, if_pos (by simpa using h), List.foldl_append]; rfl
 ·rw [if_neg h, List.filter_cons, if_neg (by simpa using h)]; simp
theorem zjj (n : Int) : ∀ l : List Int, (putS l n).length ≤ l.length + 1
 | [] => by simp [putS]
 | x :: l => by
  unfold putS
  have := zjj n l
  split
  ·simp; omega
  ·split <;> simp
theorem zpE (of : Int) (cs : List Chg) : (idsA cs of).length ≤ cs.length := by
 induction cs using snocInd with
 | h0 => simp [idsA]
 | hs cs c ih =>
  rw [zog, List.length_append, List.length_singleton]
  have := zjj c.id (idsA cs of)
  split <;> omega
end Go.Cx
