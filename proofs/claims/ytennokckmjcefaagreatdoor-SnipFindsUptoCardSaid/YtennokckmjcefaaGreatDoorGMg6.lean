/- Helper lemmas that the proved statement rests on; no conditions of their own. -/
import Derived.Lib.Bytealg
import Derived.Test.YtennokckmjcefaaGreatDoorGMg4
set_option linter.unusedVariables false
set_option maxHeartbeats 2000000
set_option maxRecDepth 100000
namespace Go.Proofs.YtennokckmjcefaaGreatDoor
open Go.Shelf Go.RowKit Go.Pw Go.Vc Go.Cs Go.Lib Go.Cd Go.Mg
def cmpR (x y : Pr) : Int := cmpI x.p.doc y.p.doc
def orR (p : Option Pr × Option Pr) : Pst := orO (p.1.map (·.p), p.2.map (·.p))
theorem zpH (la lb : List Pr) : orP (la.map (·.p)) (lb.map (·.p)) = (bothL cmpR la lb).map orR := by
 unfold orP
 rw [zeQ, List.map_map]
 rfl
section
variable {w : World}
theorem zpU {w0 : World} {va vb p0 : Value} {g2 : Nat} (la lb : List Pr) (I : List (Option Pr × Option Pr) → World → Prop)
  (ha : RowO w0 va prC la) (hb : RowO w0 vb prC lb) (hca : CapK va) (hcb : CapK vb) (hla : la.length ≤ 1000000000000) (hlb : lb.length ≤ 1000000000000)
  (hg2 : ∀ (args : Array Value) (w : World), (callFunc g2 args).run Tryz.prog w = .ok (.enter g2 args) w)
  (hI : ∀ d u, I d u → Kp w0 u n_) (hIk : ∀ d u u', I d u → Kp u u' n_ → I d u')
  (hsee : ∀ d rest xo yo px py u, bothL cmpR la lb = d ++ (xo, yo) :: rest → Kp w0 u n_ → PtrO w0 prC px xo → PtrO w0 prC py yo → I d u →
   Calls Tryz.prog g2 #[px, py, p0] u fun e u' => e = .returned (.tuple #[]) ∧ I (d ++ [(xo, yo)]) u') (h0 : I [] w) :
  Calls Tryz.prog 165 #[va, vb, .func (.func g2) #[] #[p0]] w fun e w' => e = .returned (.tuple #[]) ∧ I (bothL cmpR la lb) w' := by
 have hcall := zoG (w := w) (g1 := 220) la lb cmpR I ha hb hca hcb hla hlb (fun _ _ => rfl) hg2 hI hIk (fun x y u k => zkg x y) hsee h0
 obtain ⟨a, ca, rfl, hra⟩ := ha
 obtain ⟨b, cb, rfl, hrb⟩ := hb
 refine zaa (args := [.slice a la.length ca, .slice b lb.length cb, .func (.func g2) #[] #[p0]]) Tryz.func165 rfl NL ?_; refine GW ?_
 refine CallS.of (Tryz.call219 _ _) hcall ?_
 rintro e w1 ⟨rfl, h1⟩
 refine RT ?_
 exact ⟨rfl, h1⟩
theorem zrn {w0 : World} {b : Nat} {vo px py : Value} {xo yo : Option Pr} (l : List Pr) (hv : VarK w b 37 [vo]) (ho : OwP w b vo l) (hw : w0.heap.size ≤ b) (hk : Kp w0 w n_) (hl : l.length ≤ 2000000000000)
  (hx : PtrO w0 prC px xo) (hy : PtrO w0 prC py yo) (hne : xo ≠ none ∨ yo ≠ none)
  (hpx : ∀ x, xo = some x → RowI w0 x.h.v x.p.places ∧ CapK x.h.v ∧ x.p.places.length ≤ 1000000000000) (hpy : ∀ x, yo = some x → RowI w0 x.h.v x.p.places ∧ CapK x.h.v ∧ x.p.places.length ≤ 1000000000000) :
  Calls Tryz.prog 175 #[px, py, .pointer (some ⟨b, 0, none⟩)] w fun e w' => e = .returned (.tuple #[]) ∧ (∃ vo' x, VarK w' b 37 [vo'] ∧ OwP w' b vo' (l ++ [x]) ∧ x.p = orR (xo, yo)) ∧ Kp w0 w' n_ := by
 obtain ⟨a, c, rfl⟩ := zab ho.row
 have ha := hv.at
 cases xo with
 | none =>
  cases yo with
  | none => simp at hne
  | some y =>
   obtain rfl : px = .pointer none := hx
   obtain ⟨g, o, rfl, hat⟩ := hy
   refine zaa (args := [.pointer none, .pointer (some ⟨g, o, none⟩), .pointer (some ⟨b, 0, none⟩)]) Tryz.func175 rfl NL ?_; refine GW ?_
   refine KGO ?_
   have kd := (Kp.refl w n_).drew
   have hbl := hv.lt
   have zd := kd.size
   refine Draw.heldEnd (fun u => Kp w0 u n_ ∧ VarK u b 37 [.slice a l.length c]) (fun _ => true) (by simp) (by decide +kernel) (by decide +kernel) ⟨hk.drew, hv.keep0 kd⟩ ?_
   refine KGO ?_
   refine Held.one (by rfl) (fun u hu => hu.2.at 0 _ rfl) ?_
   refine KGO ?_
   refine HeldG (prC y) (by rfl) (by rfl) (fun u hu => zam hat hu.1) (by rfl) ?_
   refine KGO ?_
   refine CallS.of (Tryz.call176 _ _) (zif (w := w.drew) y ((hpy y rfl).1.keep hk.drew) (hpy y rfl).2.2) ?_
   rintro e w1 ⟨r, rfl, hrp, hro, k1⟩
   refine RT ?_
   have K1 := (hk.trans0 kd).trans0 k1
   have v1 := (hv.keep0 kd).keep0 k1
   have o1 := (ho.keep kd).keep k1
   have z1 := k1.size
   refine ⟨⟨K1, v1⟩, ?_⟩
   refine KGO ?_
   refine RunV.of (bs1P r _) ?_
   obtain ⟨a_b2, v_b2, k_w2, z_w2, r_w2⟩ := new5 w1 44 (prC r)
   generalize w1.alloc (.cells (List.toArray (prC r)) 44) = w2 at *
   generalize hs_b2 : w1.heap.size = b2 at *
   have K2 := K1.trans0 k_w2
   have v2 := v1.keep0 k_w2
   have o2 := o1.keep k_w2
   have r2 := zac hro k_w2
   refine ⟨⟨K2, v2⟩, ?_⟩
   refine KGO ?_
   refine tyP.app1 r o2.row (by omega) a_b2 (by omega) (by omega) fun v3 w3 o3 k3 => ?_
   have ho3 : OwP w3 b v3 (l ++ [r]) := ⟨o3, fun z hz => by
    rcases List.mem_append.1 hz with hz | hz
    ·exact zag (D := [3]) (o2.pl z hz) k3 (zaT o2.row (by decide)) (by decide)
    ·rw [List.mem_singleton.1 hz]
     exact zaz (zag (D := [3]) r2 k3 (zaT o2.row (by decide)) (by decide)) (by omega)⟩
   have v3' := v2.keep k3 (zaf o2.row v2 (by decide))
   have K3 := zaU o2.row k3 K2 hw
   obtain ⟨a3, c3, rfl⟩ := zab o3
   refine ⟨⟨K3, v3'⟩, ?_⟩
   refine KGO ?_
   refine Store.cellK (i := 0) v3' (by simp) (by rfl) ⟨rfl, by simp, by simp⟩ fun w4 v4 k4 => ?_
   refine GW ?_
   exact ⟨rfl, ⟨_, r, v4, ho3.keepT k4 (zak v3' (by decide)), hrp⟩, zah K3 k4 hw⟩
 | some x =>
  obtain ⟨g, o, rfl, hat⟩ := hx
  cases yo with
  | none =>
   obtain rfl : py = .pointer none := hy
   refine zaa (args := [.pointer (some ⟨g, o, none⟩), .pointer none, .pointer (some ⟨b, 0, none⟩)]) Tryz.func175 rfl NL ?_; refine GW ?_
   refine KGO ?_
   have kd := (Kp.refl w n_).drew
   have hbl := hv.lt
   have zd := kd.size
   refine Draw.heldEnd (fun u => Kp w0 u n_ ∧ VarK u b 37 [.slice a l.length c]) (fun _ => true) (by simp) (by decide +kernel) (by decide +kernel) ⟨hk.drew, hv.keep0 kd⟩ ?_
   refine KGO ?_
   refine Held.one (by rfl) (fun u hu => hu.2.at 0 _ rfl) ?_
   refine KGO ?_
   refine HeldG (prC x) (by rfl) (by rfl) (fun u hu => zam hat hu.1) (by rfl) ?_
   refine KGO ?_
   refine CallS.of (Tryz.call176 _ _) (zif (w := w.drew) x ((hpx x rfl).1.keep hk.drew) (hpx x rfl).2.2) ?_
   rintro e w1 ⟨r, rfl, hrp, hro, k1⟩
   refine RT ?_
   have K1 := (hk.trans0 kd).trans0 k1
   have v1 := (hv.keep0 kd).keep0 k1
   have o1 := (ho.keep kd).keep k1
   have z1 := k1.size
   refine ⟨⟨K1, v1⟩, ?_⟩
   refine KGO ?_
   refine RunV.of (bs1P r _) ?_
   obtain ⟨a_b2, v_b2, k_w2, z_w2, r_w2⟩ := new5 w1 44 (prC r)
   generalize w1.alloc (.cells (List.toArray (prC r)) 44) = w2 at *
   generalize hs_b2 : w1.heap.size = b2 at *
   have K2 := K1.trans0 k_w2
   have v2 := v1.keep0 k_w2
   have o2 := o1.keep k_w2
   have r2 := zac hro k_w2
   refine ⟨⟨K2, v2⟩, ?_⟩
   refine KGO ?_
   refine tyP.app1 r o2.row (by omega) a_b2 (by omega) (by omega) fun v3 w3 o3 k3 => ?_
   have ho3 : OwP w3 b v3 (l ++ [r]) := ⟨o3, fun z hz => by
    rcases List.mem_append.1 hz with hz | hz
    ·exact zag (D := [3]) (o2.pl z hz) k3 (zaT o2.row (by decide)) (by decide)
    ·rw [List.mem_singleton.1 hz]
     exact zaz (zag (D := [3]) r2 k3 (zaT o2.row (by decide)) (by decide)) (by omega)⟩
   have v3' := v2.keep k3 (zaf o2.row v2 (by decide))
   have K3 := zaU o2.row k3 K2 hw
   obtain ⟨a3, c3, rfl⟩ := zab o3
   refine ⟨⟨K3, v3'⟩, ?_⟩
   refine KGO ?_
   refine Store.cellK (i := 0) v3' (by simp) (by rfl) ⟨rfl, by simp, by simp⟩ fun w4 v4 k4 => ?_
   refine GW ?_
   exact ⟨rfl, ⟨_, r, v4, ho3.keepT k4 (zak v3' (by decide)), hrp⟩, zah K3 k4 hw⟩
  | some y =>
   obtain ⟨g2, o2, rfl, hat2⟩ := hy
   refine zaa (args := [.pointer (some ⟨g, o, none⟩), .pointer (some ⟨g2, o2, none⟩), .pointer (some ⟨b, 0, none⟩)]) Tryz.func175 rfl NL ?_; refine GW ?_
   refine KGO ?_
   have kd := (Kp.refl w n_).drew
   have hbl := hv.lt
   have zd := kd.size
   refine Draw.heldEnd (fun u => Kp w0 u n_ ∧ VarK u b 37 [.slice a l.length c]) (fun _ => true) (by simp) (by decide +kernel) (by decide +kernel) ⟨hk.drew, hv.keep0 kd⟩ ?_
   refine KGO ?_
   refine Held.one (by rfl) (fun u hu => hu.2.at 0 _ rfl) ?_
   refine KGO ?_
   refine HeldG (prC x) (by rfl) (by rfl) (fun u hu => zam hat hu.1) (by rfl) ?_
   refine KGO ?_
   refine HeldG (prC y) (by rfl) (by rfl) (fun u hu => zam hat2 hu.1) (by rfl) ?_
   refine KGO ?_
   refine CallS.of (Tryz.call177 _ _) (zpa (w := w.drew) x y ((hpx x rfl).1.keep hk.drew) ((hpy y rfl).1.keep hk.drew) (hpx x rfl).2.1 (hpy y rfl).2.1 (hpx x rfl).2.2 (hpy y rfl).2.2) ?_
   rintro e w1 ⟨r, rfl, hrp, hro, k1⟩
   refine RT ?_
   have K1 := (hk.trans0 kd).trans0 k1
   have v1 := (hv.keep0 kd).keep0 k1
   have o1 := (ho.keep kd).keep k1
   have z1 := k1.size
   refine ⟨⟨K1, v1⟩, ?_⟩
   refine KGO ?_
   refine RunV.of (bs1P r _) ?_
   obtain ⟨a_b2, v_b2, k_w2, z_w2, r_w2⟩ := new5 w1 44 (prC r)
   generalize w1.alloc (.cells (List.toArray (prC r)) 44) = w2 at *
   generalize hs_b2 : w1.heap.size = b2 at *
   have K2 := K1.trans0 k_w2
   have v2 := v1.keep0 k_w2
   have o2 := o1.keep k_w2
   have r2 := zac hro k_w2
   refine ⟨⟨K2, v2⟩, ?_⟩
   refine KGO ?_
   refine tyP.app1 r o2.row (by omega) a_b2 (by omega) (by omega) fun v3 w3 o3 k3 => ?_
   have ho3 : OwP w3 b v3 (l ++ [r]) := ⟨o3, fun z hz => by
    rcases List.mem_append.1 hz with hz | hz
    ·exact zag (D := [3]) (o2.pl z hz) k3 (zaT o2.row (by decide)) (by decide)
    ·rw [List.mem_singleton.1 hz]
     exact zaz (zag (D := [3]) r2 k3 (zaT o2.row (by decide)) (by decide)) (by omega)⟩
   have v3' := v2.keep k3 (zaf o2.row v2 (by decide))
   have K3 := zaU o2.row k3 K2 hw
   obtain ⟨a3, c3, rfl⟩ := zab o3
   refine ⟨⟨K3, v3'⟩, ?_⟩
   refine KGO ?_
   refine Store.cellK (i := 0) v3' (by simp) (by rfl) ⟨rfl, by simp, by simp⟩ fun w4 v4 k4 => ?_
   refine GW ?_
   exact ⟨rfl, ⟨_, r, v4, ho3.keepT k4 (zak v3' (by decide)), hrp⟩, zah K3 k4 hw⟩
theorem po_Or {va vb : Value} (la lb : List Pst) (ha : RowP w va la) (hb : RowP w vb lb) (hla : la.length ≤ 1000000000000) (hlb : lb.length ≤ 1000000000000) (hpa : ∀ p ∈ la, p.places.length ≤ 1000000000000) (hpb : ∀ p ∈ lb, p.places.length ≤ 1000000000000) :
  Calls Tryz.prog 125 #[va, vb] w fun e w' => ∃ v, e = .returned v ∧ OwnP w' w.heap.size v (orP la lb) ∧ Kp w w' n_ := by
 obtain ⟨lx, rfl, ha⟩ := ha
 obtain ⟨ly, rfl, hb⟩ := hb
 rw [List.length_map] at hla hlb
 have ha0 := ha.row
 have hb0 := hb.row
 obtain ⟨a, ca, rfl, hra⟩ := ha0
 obtain ⟨b, cb, rfl, hrb⟩ := hb0
 refine zaa (args := [.slice a lx.length ca, .slice b ly.length cb]) Tryz.func125 rfl NL ?_; refine GW ?_
 have v5 := VarK.new w 37 [.slice none 0 0]
 obtain ⟨a_b5, v_b5, k_w1, z_w1, r_w1⟩ := new5 w 37 ([.slice none 0 0])
 generalize w.alloc (.cells (List.toArray ([.slice none 0 0])) 37) = w1 at *
 generalize hs_b5 : w.heap.size = b5 at *
 refine KGO ?_
 conv => arg 3; simp [ev, upd]
 have hcall := zpU (w0 := w) (w := w1) (p0 := .pointer (some ⟨b5, 0, none⟩)) (g2 := 175) lx ly
  (fun d u => ∃ vo lo, VarK u b5 37 [vo] ∧ OwP u b5 vo lo ∧ lo.map (·.p) = d.map orR ∧ Kp w u n_)
  ha.row hb.row ha.cap hb.cap hla hlb (fun _ _ => rfl) (fun d u h => h.choose_spec.choose_spec.2.2.2)
  (fun d u u' ⟨vo, lo, h1, h2, h3, h4⟩ k => ⟨vo, lo, h1.keep0 k, h2.keep k, h3, h4.trans0 k⟩)
  (fun d rest xo yo px py u hd hk hpx hpy ⟨vo, lo, h1, h2, h3, h4⟩ => by
   have hsp := zaO cmpR lx ly
   rw [hd] at hsp
   have hm := hsp.1 (xo, yo) (by simp)
   have hln := hsp.2
   rw [List.length_append, List.length_cons] at hln
   have hll := congrArg List.length h3
   rw [List.length_map, List.length_map] at hll
   refine (zrn (w := u) (w0 := w) lo h1 h2 (by omega) h4 (by omega) hpx hpy hm.1
    (fun x e => ⟨ha.pl x (hm.2.1 x e), ha.plc x (hm.2.1 x e), hpa x.p (List.mem_map_of_mem (hm.2.1 x e))⟩) (fun x e => ⟨hb.pl x (hm.2.2 x e), hb.plc x (hm.2.2 x e), hpb x.p (List.mem_map_of_mem (hm.2.2 x e))⟩)).mono fun e u' h => ?_
   obtain ⟨rfl, ⟨vo', x, h5, h6, h7⟩, h8⟩ := h
   exact ⟨rfl, vo', lo ++ [x], h5, h6, by rw [List.map_append, List.map_append, h3, List.map_singleton, h7]; rfl, h8⟩)
  ⟨_, [], v_b5, ⟨World.ownsRow_nil _ _ _ _, fun x h => by cases h⟩, rfl, k_w1⟩
 refine CallS.of (Tryz.call165 _ _) hcall ?_
 rintro e w2 ⟨rfl, vo, lo, h1, h2, h3, h4⟩
 obtain ⟨ao, co, rfl⟩ := zab h2.row
 have a1 := h1.at
 have q1 := Kp.refl w2 n_
 clear hcall
 refine RT ?_
 refine KGO ?_
 exact ⟨_, rfl, ⟨lo, by rw [h3, zpH], h2.base (by omega)⟩, h4⟩
end
end Go.Proofs.YtennokckmjcefaaGreatDoor
namespace Go.Mg
open Go.Cs Go.Lib Go.Cd
structure Trm where
 field : Int
 word : List UInt8
 list : List UInt8
deriving DecidableEq, Inhabited
structure Sgm where
 terms : List Trm
 docs : List Int
deriving DecidableEq, Inhabited
structure Ent where
 doc : Int
 field : Int
 text : List UInt8
deriving DecidableEq, Inhabited
theorem zpn (a b : List UInt8) : compareBytes a b < 0 ↔ ltT a b = true := by
 unfold ltT
 rw [decide_eq_true_eq]
 induction a generalizing b with
 | nil => cases b with
  | nil => simp [compareBytes]
  | cons y s => simp [compareBytes]
 | cons x r ih => cases b with
  | nil => simp [compareBytes]
  | cons y s =>
   unfold compareBytes
   rw [List.cons_lt_cons_iff]
   by_cases h1 : x < y
   ·simp [h1]
   ·rw [if_neg h1]
    by_cases h2 : y < x
    ·rw [if_pos h2]
     have : x ≠ y := fun e => by subst e; exact h1 h2
     simp [h1, this]
    ·rw [if_neg h2, ih]
     have e : x = y := UInt8.le_antisymm (UInt8.not_lt.1 h2) (UInt8.not_lt.1 h1)
     subst e
     simp [h1]
theorem zpr (a b : List UInt8) : compareBytes a b = 0 ↔ a = b := by
 induction a generalizing b with
 | nil => cases b with
  | nil => simp [compareBytes]
  | cons y s => simp [compareBytes]
 | cons x r ih => cases b with
  | nil => simp [compareBytes]
  | cons y s =>
   unfold compareBytes
   by_cases h1 : x < y
   ·have : x ≠ y := fun e => by subst e; exact absurd h1 (by simp)
    simp [h1, this]
   ·rw [if_neg h1]
    by_cases h2 : y < x
    ·have : x ≠ y := fun e => by subst e; exact h1 h2
     simp [h2, this]
    ·rw [if_neg h2, ih]
     have e : x = y := UInt8.le_antisymm (UInt8.not_lt.1 h2) (UInt8.not_lt.1 h1)
     subst e
     simp
theorem zqm (a b : List UInt8) : compareBytes a b = if ltT a b = true then -1 else if a = b then 0 else 1 := by
 have key : ∀ a b : List UInt8, compareBytes a b = -1 ∨ compareBytes a b = 0 ∨ compareBytes a b = 1 := by
  intro a
  induction a with
  | nil => intro b; cases b <;> simp [compareBytes]
  | cons x r ih => intro b; cases b with
   | nil => simp [compareBytes]
   | cons y s =>
    unfold compareBytes
    split
    ·exact .inl rfl
    ·split
     ·exact .inr (.inr rfl)
     ·exact ih s
 have h1 := zpn a b
 have h2 := zpr a b
 by_cases c1 : ltT a b = true
 ·rw [if_pos c1]; have := h1.2 c1; rcases key a b with h | h | h <;> omega
 ·rw [if_neg c1]
  by_cases c2 : a = b
  ·rw [if_pos c2]; exact h2.2 c2
  ·rw [if_neg c2]
   rcases key a b with h | h | h
   ·exact absurd (h1.1 (by omega)) c1
   ·exact absurd (h2.1 h) c2
   ·exact h
def cmpT (a b : Trm) : Int := if cmpI a.field b.field ≠ 0 then cmpI a.field b.field else compareBytes a.word b.word
def ltK (a b : Int × List UInt8) : Bool := decide (a.1 < b.1) || (decide (a.1 = b.1) && ltT a.2 b.2)
abbrev Trm.key (t : Trm) : Int × List UInt8 := (t.field, t.word)
theorem stoK : STO ltK := ⟨fun a => by simp [ltK, stoT.irr], fun a b c h1 h2 => by
 simp only [ltK, Bool.or_eq_true, Bool.and_eq_true, decide_eq_true_eq] at *
 rcases h1 with h1 | ⟨e1, h1⟩ <;> rcases h2 with h2 | ⟨e2, h2⟩
 ·exact .inl (by omega)
 ·exact .inl (by omega)
 ·exact .inl (by omega)
 ·exact .inr ⟨by omega, stoT.tr _ _ _ h1 h2⟩, fun a b h1 h2 => by
 simp only [ltK, Bool.or_eq_false_iff, decide_eq_false_iff_not] at h1 h2
 have e : a.1 = b.1 := by omega
 have h3 := h1.2
 have h4 := h2.2
 rw [e] at h3 h4
 simp only [decide_true, Bool.true_and] at h3 h4
 exact Prod.ext e (stoT.tri _ _ h3 h4)⟩
theorem zeO (a b : Trm) : cmpT a b < 0 ↔ ltK a.key b.key = true := by
 unfold cmpT ltK cmpI
 simp only [Bool.or_eq_true, Bool.and_eq_true, decide_eq_true_eq]
 by_cases h1 : a.field < b.field
 ·simp [h1]
 ·by_cases h2 : b.field < a.field
  ·simp [h1, h2]; omega
  ·have e : a.field = b.field := by omega
   simp [e, zpn]
theorem ziL (a b : Trm) : cmpT a b = 0 ↔ a.key = b.key := by
 unfold cmpT cmpI
 by_cases h1 : a.field < b.field
 ·simp [h1]; intro h; omega
 ·by_cases h2 : b.field < a.field
  ·simp [h1, h2]; intro h; omega
  ·have e : a.field = b.field := by omega
   simp [e, zpr]
def wordsOf (l : List UInt8) : List (List UInt8) := (wordsL l).map (·.1)
def okList (docs : List Int) (u : List UInt8) : Bool := match decP u with
 | some p => !p.isEmpty && p.all fun x => decide (x.doc ∈ docs)
 | none => false
def okTerm (docs : List Int) (t : Trm) : Bool := decide (1 ≤ t.field ∧ t.field ≤ 5) && decide (wordsOf t.word = [t.word]) && okList docs t.list
def ascTm : List Trm → Bool
 | a :: b :: l => ltK a.key b.key && ascTm (b :: l)
 | _ => true
def rightS (s : Sgm) : Bool := risesB 1 s.docs && s.terms.all (okTerm s.docs) && ascTm s.terms
def plT (t : Trm) : List Pst := (decP t.list).getD []
def itemO : Option Trm × Option Trm → Trm × List Pst
 | (some x, some y) => (y, orP (plT x) (plT y))
 | (some x, none) => (x, orP (plT x) [])
 | (none, some y) => (y, orP [] (plT y))
 | (none, none) => default
def mergeT (a b : List Trm) : List (Trm × List Pst) := (bothL cmpT a b).map itemO
theorem zct : mergeT [] [] = [] := rfl
theorem zcu (y : Trm) (b : List Trm) : mergeT [] (y :: b) = (y, orP [] (plT y)) :: mergeT [] b := rfl
theorem zbS (x : Trm) (a : List Trm) : mergeT (x :: a) [] = (x, orP (plT x) []) :: mergeT a [] := by unfold mergeT; rw [zaV, zaV]; rfl
theorem zbQ (x y : Trm) (a b : List Trm) : mergeT (x :: a) (y :: b) = if cmpT x y < 0 then (x, orP (plT x) []) :: mergeT a (y :: b) else if cmpT x y = 0 then (y, orP (plT x) (plT y)) :: mergeT a b else (y, orP [] (plT y)) :: mergeT (x :: a) b := by
 unfold mergeT
 rw [zbe]
 split
 ·rfl
 ·split <;> rfl
theorem zhC : ∀ l : List Trm, ascTm l = true ↔ l.Pairwise fun a b => ltK a.key b.key = true
 | [] => by simp [ascTm]
 | [a] => by simp [ascTm]
 | a :: b :: l => by
  rw [ascTm, Bool.and_eq_true, zhC (b :: l), List.pairwise_cons (a := a)]
  constructor
  ·rintro ⟨h1, h2⟩
   refine ⟨fun c hc => ?_, h2⟩
   rcases List.mem_cons.1 hc with rfl | hc
   ·exact h1
   ·exact stoK.tr _ _ _ h1 ((List.pairwise_cons.1 h2).1 c hc)
  ·rintro ⟨h1, h2⟩
   exact ⟨h1 b List.mem_cons_self, h2⟩
def cntP (l : List Pst) : Nat := (encN 0 l).length
theorem cnt_cons (p : Pst) (l : List Pst) : cntP (p :: l) = p.places.length + 2 + cntP l := by
 unfold cntP
 rw [encN, List.length_cons, List.length_cons, List.length_append, zdH, zdG l]; omega
theorem zcW (f : Pst → Bool) : ∀ l : List Pst, cntP (l.filter f) ≤ cntP l
 | [] => Nat.le_refl _
 | p :: l => by
  have := zcW f l
  rw [List.filter_cons, cnt_cons]
  split
  ·rw [cnt_cons]; omega
  ·omega
theorem zqs (x y : List Int) : (unI x y).length ≤ x.length + y.length := by
 unfold unI; rw [List.length_map]; exact (zaO cmpI x y).2
theorem zem : ∀ (n : Nat) (x y : List Pst), x.length + y.length ≤ n → cntP (orP x y) ≤ cntP x + cntP y
 | _, [], y, _ => by rw [zee]; omega
 | _, a :: x, [], _ => by rw [zeg]; omega
 | 0, a :: x, b :: y, h => by simp at h
 | n + 1, a :: x, b :: y, h => by
  simp only [List.length_cons] at h
  rw [zkd, cnt_cons a x, cnt_cons b y]
  split
  ·have := zem n x (b :: y) (by simp only [List.length_cons]; omega)
   rw [cnt_cons b y] at this
   rw [cnt_cons]; omega
  ·split
   ·have := zem n (a :: x) y (by simp only [List.length_cons]; omega)
    rw [cnt_cons a x] at this
    rw [cnt_cons]; omega
   ·have := zem n x y (by omega)
    have h2 := zqs a.places b.places
    rw [cnt_cons]; dsimp only; omega
theorem zlN (t : Trm) : cntP (plT t) ≤ t.list.length := by
 unfold plT cntP
 cases hd : decP t.list with
 | none => simp [encN]
 | some p =>
  have h1 := (zcM.1 hd)
  have h3 := h1.2
  rw [zcK h1.1] at h3
  have h4 := congrArg List.length h3
  rw [List.length_append] at h4
  have h5 : (encN 0 p).length ≤ ((encN 0 p).flatMap numE).length := by
   generalize encN 0 p = q
   induction q with
   | nil => simp
   | cons n q ih => have := zdA n; rw [List.flatMap_cons, List.length_append, List.length_cons]; omega
  show (encN 0 p).length ≤ _
  omega
theorem znU {b : Nat} {x y : List Trm} (hx : ∀ t ∈ x, cntP (plT t) ≤ b) (hy : ∀ t ∈ y, cntP (plT t) ≤ b) : ∀ z ∈ mergeT x y, cntP z.2 ≤ b + b ∧ (z.1 ∈ x ∨ z.1 ∈ y) := by
 intro z hz
 obtain ⟨⟨o1, o2⟩, hm, rfl⟩ := List.mem_map.1 hz
 obtain ⟨h1, h2, h3⟩ := (zaO cmpT x y).1 _ hm
 dsimp only at h1 h2 h3
 cases o1 with
 | none =>
  cases o2 with
  | none => simp at h1
  | some t =>
   have a := hy t (h3 t rfl)
   refine ⟨?_, .inr (h3 t rfl)⟩
   show cntP (orP [] (plT t)) ≤ _
   rw [zee]; omega
 | some s =>
  have a := hx s (h2 s rfl)
  cases o2 with
  | none =>
   refine ⟨?_, .inl (h2 s rfl)⟩
   show cntP (orP (plT s) []) ≤ _
   rw [zeg]; omega
  | some t =>
   have c := hy t (h3 t rfl)
   refine ⟨?_, .inr (h3 t rfl)⟩
   show cntP (orP (plT s) (plT t)) ≤ _
   have := zem _ (plT s) (plT t) (Nat.le_refl _)
   omega
def validS (s : Sgm) : Sgm := if rightS s = true then s else ⟨[], []⟩
def liveP (dead : List Int) (l : List Pst) : List Pst := l.filter fun p => !decide (p.doc ∈ dead)
def termOf (dead : List Int) (x : Trm × List Pst) : Option Trm := if liveP dead x.2 = [] then none else some ⟨x.1.field, x.1.word, encP (liveP dead x.2)⟩
def twoS (a b : Sgm) (dead : List Int) : Sgm := ⟨(mergeT (validS a).terms (validS b).terms).filterMap (termOf dead), sortI (((validS a).docs ++ (validS b).docs).filter fun d => !decide (d ∈ dead))⟩
end Go.Mg
namespace Go.Cs
open Go.Lib
def hasS (l : List Sc) (nm : List UInt8) : Bool := l.any fun s => decide (s.name = nm)
def AscS (l : List Sc) : Prop := l.Pairwise fun a b => ltT a.name b.name = true
end Go.Cs
namespace Go.Proofs.YtennokckmjcefaaGreatDoor
open Go.Shelf Go.RowKit Go.Pw Go.Vc Go.Cs Go.Lib
section
end
end Go.Proofs.YtennokckmjcefaaGreatDoor
namespace Go.Cs
open Go.Lib
def risesB {α : Type} (lt : α → α → Bool) : List α → Bool
 | a :: b :: r => lt a b && risesB lt (b :: r)
 | _ => true
theorem risesB_iff {α : Type} (lt : α → α → Bool) : ∀ l : List α, risesB lt l = true ↔ ∀ i (h : i + 1 < l.length), lt (l[i]'(by omega)) l[i + 1] = true
 | [] => by simp [risesB]
 | [a] => by simp [risesB]
 | a :: b :: r => by
  rw [risesB, Bool.and_eq_true, risesB_iff lt (b :: r)]
  constructor
  ·rintro ⟨h1, h2⟩ i hi
   cases i with
   | zero => exact h1
   | succ i => exact h2 i (by simpa using hi)
  ·intro h
   exact ⟨h 0 (by simp), fun i hi => h (i + 1) (by simpa using hi)⟩
def lastB (A : Acc) : Bool := match A.boxes.getLast? with | none => true | some b => decide (b.id < A.nb)
def srcB (s : Sc) : Bool := scB s.name && decide (s.text.length ≤ 32768)
end Go.Cs
namespace Go.Proofs.YtennokckmjcefaaGreatDoor
open Go.Shelf Go.RowKit Go.Pw Go.Vc Go.Cs Go.Lib
theorem zeo : ∀ (x y : List UInt8), Op.bytesLess x y = decide (x < y)
 | [], [] => by simp [Op.bytesLess]
 | [], b :: bs => by simp [Op.bytesLess]
 | a :: x, [] => by simp [Op.bytesLess]
 | a :: x, b :: y => by
  rw [Op.bytesLess, zeo x y]
  simp only [List.cons_lt_cons_iff]
  by_cases h1 : a < b <;> by_cases h2 : a = b <;> by_cases h3 : x < y <;> simp [h1, h2, h3]
theorem zpm (x y : List UInt8) : Op.bytesLess (str x).toList (str y).toList = ltT x y := by
 rw [zeo]
 have e : ∀ z : List UInt8, (str z).toList = z := fun z => by rw [← L_str z]; exact ByteArray.toList_eq _
 rw [e, e]; rfl
section
end
end Go.Proofs.YtennokckmjcefaaGreatDoor
namespace Go.Proofs.YtennokckmjcefaaGreatDoor
open Go.Shelf Go.RowKit Go.Pw Go.Vc Go.Cs Go.Lib Go.Cd Go.Mg
def tmC (t : Trm) : List Value := [.int .i64 t.field, .string (str t.word), .string (str t.list)]
theorem lenTm (x : Trm) : (tmC x).length = 3 := rfl
theorem infoTm : (Tryz.prog.info? 141).map (fun i => (i.zero, i.size, i.bytes)) = some (some (.agg #[.int .i64 0, .string ⟨#[]⟩, .string ⟨#[]⟩]), 3, 40) := by kernel_rfl
theorem tyTm : RowTy 63 141 tmC 3 40 := ⟨Tryz.underlying63, ⟨_, infoTm, rfl⟩, by decide, lenTm, fun x => List.all_eq_true.1 (by rfl)⟩
theorem bs2I (x y : Int) (w : World) : (Instr.buildSlice 40 2 [(0, .int .i64 x), (1, .int .i64 y)].toArray).run Tryz.prog w = .ok (.slice (some ⟨w.heap.size, 0, none⟩) 2 2) (w.alloc (.cells (List.toArray [.int .i64 x, .int .i64 y]) 3)) := by
 simp [Instr.buildSlice, go_sem, Tryz.runUnderlying40]
section
variable {w : World}
theorem zpo {b : Nat} (x y : Int) (hat : At w b 0 [.int .i64 x, .int .i64 y]) : Calls Tryz.prog 208 #[.slice (some ⟨b, 0, none⟩) 2 2] w fun e w' => e = .returned (.int .i64 (if x ≠ 0 then x else y)) ∧ Kp w w' n_ := by
 refine zaa (args := [.slice (some ⟨b, 0, none⟩) 2 2]) Tryz.func208 rfl NL ?_; refine GW ?_
 have c0 : w.cell? ⟨b, 0 + 0, none⟩ = some (.int .i64 x) := hat 0 _ rfl
 have c1 : w.cell? ⟨b, 0 + 1, none⟩ = some (.int .i64 y) := hat 1 _ rfl
 refine Loop.intro (ι := Nat) (fun i => [(3, .int .i64 0), (6, .slice (some ⟨b, 0, none⟩) 2 2), (7, .int .i64 2), (8, .int .i64 (i : Nat))])
  (fun i wr => Kp w wr n_ ∧ i ≤ 2 ∧ (1 ≤ i → x = 0) ∧ (2 ≤ i → y = 0)) (fun i => 2 - i) 0 ⟨rfl, rfl, rfl, rfl, trivial⟩ ⟨Kp.refl _ _, Nat.zero_le _, fun h => by omega, fun h => by omega⟩ ?_
 rintro i gg wr ⟨hK, hi, h1, h2⟩
 refine GW ?_
 have hc : i = 0 ∨ i = 1 ∨ i = 2 := by omega
 rcases hc with rfl | rfl | rfl
 ·by_cases hx : x = 0
  ·refine KGO ?_
   exact ⟨1, ⟨rfl, rfl, rfl, rfl, trivial⟩, ⟨hK, by omega, fun _ => hx, fun h => by omega⟩, by dsimp only; omega⟩
  ·refine KGO ?_
   exact ⟨by rw [if_pos hx], hK⟩
 ·have hx := h1 (by omega)
  by_cases hy : y = 0
  ·refine KGO ?_
   exact ⟨2, ⟨rfl, rfl, rfl, rfl, trivial⟩, ⟨hK, by omega, fun _ => hx, fun _ => hy⟩, by dsimp only; omega⟩
  ·refine KGO ?_
   exact ⟨by rw [if_neg (by omega)], hK⟩
 ·have hx := h1 (by omega)
  have hy := h2 (by omega)
  refine KGO ?_
  exact ⟨by rw [hx, hy]; rfl, hK⟩
theorem zkO (x y : Trm) : Calls Tryz.prog 144 #[.agg (tmC x).toArray, .agg (tmC y).toArray] w fun e w' => e = .returned (.int .i64 (cmpT x y)) ∧ Kp w w' n_ := by
 refine zaa (args := [.agg (tmC x).toArray, .agg (tmC y).toArray]) Tryz.func144 rfl NL ?_; refine GW ?_
 obtain ⟨a_b1, v_b1, k_w1, z_w1, r_w1⟩ := new5 w 141 (tmC x)
 generalize w.alloc (.cells (List.toArray (tmC x)) 141) = w1 at *
 generalize hs_b1 : w.heap.size = b1 at *
 obtain ⟨a_b2, v_b2, k_w2, z_w2, r_w2⟩ := new5 w1 141 (tmC y)
 generalize w1.alloc (.cells (List.toArray (tmC y)) 141) = w2 at *
 generalize hs_b2 : w1.heap.size = b2 at *
 have K2 : Kp w w2 n_ := k_w1.trans0 k_w2
 have a1 := zam a_b1 k_w2
 clear a_b1
 refine KGO ?_
 refine Draw.held (fun u => Kp w2 u n_) (fun _ => true) (by decide +kernel) (Kp.refl w2 n_).drew ?_
 refine KGO ?_
 refine CallS.of (Tryz.call209 _ _) (zjo x.field y.field) ?_
 rintro e w3 ⟨rfl, k3⟩
 have k23 : Kp w2 w3 n_ := ((Kp.refl w2 n_).drew).trans0 k3
 refine RT ?_
 refine ⟨k23, ?_⟩
 refine KGO ?_
 refine CallS.of (Tryz.call210 _ _) (zhP (str x.word) (str y.word) w3) ?_
 rintro e _ ⟨rfl, rfl⟩
 refine RT ?_
 refine ⟨k23, ?_⟩
 refine KGO ?_
 refine RunV.of (bs2I _ _ _) ?_
 obtain ⟨a_b4, v_b4, k_w4, z_w4, r_w4⟩ := new5 w3 3 ([.int .i64 (cmpI x.field y.field), .int .i64 (compareBytes (L (str x.word)) (L (str y.word)))])
 generalize w3.alloc (.cells (List.toArray ([.int .i64 (cmpI x.field y.field), .int .i64 (compareBytes (L (str x.word)) (L (str y.word)))])) 3) = w4 at *
 generalize hs_b4 : w3.heap.size = b4 at *
 refine ⟨k23.trans0 k_w4, ?_⟩
 refine KGO ?_
 refine CallS.of (Tryz.call208 _ _) (zpo _ _ a_b4) ?_
 rintro e w5 ⟨rfl, k5⟩
 refine RT ?_
 refine ⟨(k23.trans0 k_w4).trans0 k5, ?_⟩
 refine KGO ?_
 exact ⟨rfl, K2.trans0 ((k23.trans0 k_w4).trans0 k5)⟩
theorem zlB (x : ByteArray) : Calls Tryz.prog 266 #[.string x] w fun e w' => e = .returned (.bool false) ∧ w = w' := by
 refine zaa (args := [.string x]) Tryz.func266 rfl NL ?_; refine GW ?_
 exact ⟨zal (by simp), rfl⟩
theorem zqS (x y : List UInt8) (w : World) : Calls Tryz.prog 256 #[.string (str x), .string (str y)] w fun e w' => e = .returned (.int .i64 (compareBytes (L (str x)) (L (str y)))) ∧ w = w' := by
 refine zaa (args := [.string (str x), .string (str y)]) Tryz.func256 rfl NL ?_; refine GW ?_
 refine CallS.of (Tryz.call266 _ _) (zlB (str x)) ?_
 rintro e _ ⟨rfl, rfl⟩
 refine RT ?_
 refine CallS.of (Tryz.call266 _ _) (zlB (str y)) ?_
 rintro e _ ⟨rfl, rfl⟩
 refine RT ?_
 have e : compareBytes (L (str x)) (L (str y)) = if ltT x y = true then -1 else if x = y then 0 else 1 := zqm x y
 rw [e]
 by_cases h1 : ltT x y = true
 ·have hb : Op.bytesLess (str x).toList (str y).toList = true := (zpm _ _).trans h1
  rw [if_pos h1]
  refine KGO ?_
  exact ⟨rfl, rfl⟩
 have hb : Op.bytesLess (str x).toList (str y).toList = false := (zpm _ _).trans (by simpa using h1)
 rw [if_neg h1]
 have hq : ((str x).toList == (str y).toList) = decide (x = y) := by rw [zpG]
 by_cases h2 : x = y
 ·rw [if_pos h2]
  rw [decide_eq_true h2] at hq
  refine KGO ?_
  rw [hb, hq]
  refine KGO ?_
  exact ⟨rfl, rfl⟩
 ·rw [if_neg h2]
  rw [decide_eq_false h2] at hq
  refine KGO ?_
  rw [hb, hq]
  refine KGO ?_
  exact ⟨rfl, rfl⟩
theorem zkq (x y : Trm) : Calls Tryz.prog 234 #[.agg (tmC x).toArray, .agg (tmC y).toArray] w fun e w' => e = .returned (.int .i64 (cmpT x y)) ∧ Kp w w' n_ := by
 refine zaa (args := [.agg (tmC x).toArray, .agg (tmC y).toArray]) Tryz.func234 rfl NL ?_; refine GW ?_
 obtain ⟨a_b1, v_b1, k_w1, z_w1, r_w1⟩ := new5 w 141 (tmC x)
 generalize w.alloc (.cells (List.toArray (tmC x)) 141) = w1 at *
 generalize hs_b1 : w.heap.size = b1 at *
 obtain ⟨a_b2, v_b2, k_w2, z_w2, r_w2⟩ := new5 w1 141 (tmC y)
 generalize w1.alloc (.cells (List.toArray (tmC y)) 141) = w2 at *
 generalize hs_b2 : w1.heap.size = b2 at *
 have K2 : Kp w w2 n_ := k_w1.trans0 k_w2
 have a1 := zam a_b1 k_w2
 clear a_b1
 refine KGO ?_
 refine Draw.held (fun u => Kp w2 u n_) (fun _ => true) (by decide +kernel) (Kp.refl w2 n_).drew ?_
 refine KGO ?_
 refine CallS.of (Tryz.call209 _ _) (zjo x.field y.field) ?_
 rintro e w3 ⟨rfl, k3⟩
 have k23 : Kp w2 w3 n_ := ((Kp.refl w2 n_).drew).trans0 k3
 refine RT ?_
 refine ⟨k23, ?_⟩
 refine KGO ?_
 refine CallS.of (Tryz.call256 _ _) (zqS x.word y.word w3) ?_
 rintro e _ ⟨rfl, rfl⟩
 refine RT ?_
 refine ⟨k23, ?_⟩
 refine KGO ?_
 refine RunV.of (bs2I _ _ _) ?_
 obtain ⟨a_b4, v_b4, k_w4, z_w4, r_w4⟩ := new5 w3 3 ([.int .i64 (cmpI x.field y.field), .int .i64 (compareBytes (L (str x.word)) (L (str y.word)))])
 generalize w3.alloc (.cells (List.toArray ([.int .i64 (cmpI x.field y.field), .int .i64 (compareBytes (L (str x.word)) (L (str y.word)))])) 3) = w4 at *
 generalize hs_b4 : w3.heap.size = b4 at *
 refine ⟨k23.trans0 k_w4, ?_⟩
 refine KGO ?_
 refine CallS.of (Tryz.call208 _ _) (zpo _ _ a_b4) ?_
 rintro e w5 ⟨rfl, k5⟩
 refine RT ?_
 refine ⟨(k23.trans0 k_w4).trans0 k5, ?_⟩
 refine KGO ?_
 exact ⟨rfl, K2.trans0 ((k23.trans0 k_w4).trans0 k5)⟩
theorem zqq (x y : Int) : Calls Tryz.prog 130 #[.int .i64 x, .int .i64 y] w fun e w' => e = .returned (.bool (decide (x < y))) ∧ Kp w w' n_ := by
 refine zaa (args := [.int .i64 x, .int .i64 y]) Tryz.func130 rfl NL ?_; refine GW ?_
 refine CallS.of (Tryz.call189 _ _) (zhO x) ?_
 rintro e _ ⟨rfl, rfl⟩
 refine RT ?_
 refine KGO ?_
 exact ⟨rfl, Kp.refl _ _⟩
theorem zrc (x : Int) : Calls Tryz.prog 131 #[.int .i64 x] w fun e w' => e = .returned (.bool false) ∧ w = w' := by
 refine zaa (args := [.int .i64 x]) Tryz.func131 rfl NL ?_; refine GW ?_
 exact ⟨zal (by simp), rfl⟩
theorem bs_I {v : Value} (l : List Int) (n : Int) (hv : RowI w v l) (hl : l.length ≤ 100000000000) : Calls Tryz.prog 81 #[v, .int .i64 n] w fun e w' =>
  ∃ (k : Nat) (b : Bool), e = .returned (.tuple #[.int .i64 (k : Nat), .bool b]) ∧ (AscB ltI l → b = decide (n ∈ l)) ∧ Kp w w' n_ := by
 obtain ⟨a, cap, rfl, hr⟩ := hv
 refine zaa (args := [.slice a l.length cap, .int .i64 n]) Tryz.func81 rfl NL ?_; refine GW ?_
 refine Loop.intro (ι := Nat × Nat) (fun p => [(0, .slice a l.length cap), (1, .int .i64 n), (6, .int .i64 (l.length : Nat)), (7, .int .i64 (p.1 : Nat)), (8, .int .i64 (p.2 : Nat))])
  (fun p wr => Kp w wr n_ ∧ p.1 ≤ p.2 ∧ p.2 ≤ l.length ∧ (AscB ltI l → (∀ m (hm : m < l.length), m < p.1 → l[m] < n) ∧ ∀ m (hm : m < l.length), p.2 ≤ m → ¬ l[m] < n)) (fun p => p.2 - p.1) (0, l.length) ⟨rfl, rfl, rfl, rfl, rfl, trivial⟩
  ⟨Kp.refl _ _, by omega, Nat.le_refl _, fun _ => ⟨fun m _ hm => by omega, fun m h1 h2 => by omega⟩⟩ ?_
 rintro ⟨i, j⟩ g wr ⟨hK, hij, hj, hord⟩
 dsimp only at hij hj hord ⊢
 refine GW ?_
 by_cases hlt : i < j
 ·obtain ⟨gb, o, rfl, hgb, hat⟩ := hr (by omega)
  refine KGO ?_
  rw [ziR i j (by omega)]
  have hm1 : i ≤ (i + j) / 2 := by omega
  have hm2 : (i + j) / 2 < j := by omega
  generalize (i + j) / 2 = h at *
  have hhl : h < l.length := by omega
  have ch := zcI hat hhl
  refine KGO ?_
  refine CallS.of (Tryz.call130 _ _) (zqq l[h] n) ?_
  rintro e w1 ⟨rfl, k1⟩
  refine RT ?_
  by_cases hc : l[h] < n
  ·refine KGO ?_
   refine ⟨(h + 1, j), ⟨rfl, rfl, rfl, v_int (by simp), rfl, trivial⟩, ⟨hK.trans0 k1, by dsimp only; omega, hj, fun hp => ⟨fun m hm hmh => ?_, (hord hp).2⟩⟩, by dsimp only; omega⟩
   dsimp only at hmh
   by_cases e : m = h
   ·subst e; exact hc
   ·have := of_decide_eq_true ((List.pairwise_iff_getElem.1 hp) m h hm hhl (by omega)); omega
  ·refine KGO ?_
   refine ⟨(i, h), ⟨rfl, rfl, rfl, rfl, rfl, trivial⟩, ⟨hK.trans0 k1, by dsimp only; omega, by dsimp only; omega, fun hp => ⟨(hord hp).1, fun m hm hmh => ?_⟩⟩, by dsimp only; omega⟩
   dsimp only at hmh
   by_cases e : m = h
   ·subst e; exact hc
   ·have := of_decide_eq_true ((List.pairwise_iff_getElem.1 hp) h m hhl hm (by omega)); omega
 ·have hji : j = i := by omega
  subst hji
  by_cases h17 : j < l.length
  ·obtain ⟨gb, o, rfl, hgb, hat⟩ := hr (by omega)
   have ch := zcI hat h17
   by_cases he : l[j] = n
   ·refine KGO ?_
    exact ⟨j, _, rfl, fun hp => (decide_eq_true (he ▸ List.getElem_mem h17)).symm, hK⟩
   ·have hno : AscB ltI l → n ∉ l := fun hp hm => by
     obtain ⟨m, hm', rfl⟩ := List.getElem_of_mem hm
     rcases Nat.lt_trichotomy m j with h | h | h
     ·have := (hord hp).1 m hm' h; omega
     ·subst h; exact he rfl
     ·have h1 := of_decide_eq_true ((List.pairwise_iff_getElem.1 hp) j m h17 hm' h)
      have h2 := (hord hp).2 j h17 (Nat.le_refl _); omega
    refine KGO ?_
    refine CallS.of (Tryz.call131 _ _) (zrc l[j]) ?_
    rintro e _ ⟨rfl, rfl⟩
    refine RT ?_
    refine KGO ?_
    exact ⟨j, _, rfl, fun hp => (decide_eq_false (hno hp)).symm, hK⟩
  ·refine KGO ?_
   refine ⟨j, _, rfl, fun hp => (decide_eq_false fun hm => ?_).symm, hK⟩
   obtain ⟨m, hm', rfl⟩ := List.getElem_of_mem hm
   have := (hord hp).1 m hm' (by omega); omega
theorem zhN {v : Value} (u : List UInt8) (docs : List Int) (hv : RowI w v docs) (hl : docs.length ≤ 100000000000) (hu : u.length ≤ 10000000) (hs : AscB ltI docs) : Calls Tryz.prog 170 #[.string (str u), v] w fun e w' => e = .returned (.bool (okList docs u)) ∧ Kp w w' n_ := by
 have hv0 := hv
 obtain ⟨a, cap, rfl, hr⟩ := hv
 refine zaa (args := [.string (str u), .slice a docs.length cap]) Tryz.func170 rfl NL ?_; refine GW ?_
 refine CallS.of (Tryz.call167 _ _) (zdw (w := w) u hu) ?_
 rintro e w1 ⟨⟨vp, rfl, op, hno⟩, k1⟩
 obtain ⟨ap, cp, rfl⟩ := op.shape
 have hok : okList docs u = ((decP u).isSome && ((decP u).getD []).all (fun x => decide (x.doc ∈ docs)) && decide (0 < ((decP u).getD []).length)) := by
  unfold okList
  cases decP u with
  | none => rfl
  | some p => cases p <;> simp
 have hlen : ((decP u).getD []).length ≤ 10000000 := by
  cases h : decP u with
  | none => simp
  | some p =>
   have h1 := (zcM.1 h)
   have h2 := zbF p
   have h3 := h1.2
   rw [zcK h1.1] at h3
   have h4 := congrArg List.length h3
   rw [List.length_append] at h4
   have h5 : (encN 0 p).length ≤ ((encN 0 p).flatMap numE).length := by
    generalize encN 0 p = q
    induction q with
    | nil => simp
    | cons n q ih => have := zdA n; rw [List.flatMap_cons, List.length_append, List.length_cons]; omega
   show p.length ≤ _
   omega
 generalize (decP u).getD [] = P at *
 generalize (decP u).isSome = q at *
 obtain ⟨lx, rfl, hlx⟩ := op
 rw [List.length_map] at hlen
 obtain ⟨a1, c1, e1, hra⟩ := hlx.rd.row
 rw [List.length_map] at *
 injection e1 with e1 e2 e3
 subst e1 e3
 refine RT ?_
 refine KGO ?_
 rw [hok]
 refine Loop.intro (ι := Nat) (fun i => [(1, .slice a docs.length cap), (5, .slice ap lx.length cp), (6, .bool (q && (lx.take i).all fun x => decide (x.p.doc ∈ docs))), (16, .slice ap lx.length cp), (17, .int .i64 (lx.length : Nat)), (18, .int .i64 (i : Nat))])
  (fun i wr => Kp w1 wr n_ ∧ i ≤ lx.length) (fun i => lx.length - i) 0 ⟨rfl, rfl, by simp [upd], rfl, rfl, rfl, trivial⟩ ⟨Kp.refl _ _, Nat.zero_le _⟩ ?_
 rintro i gg wr ⟨hK, hi⟩
 refine GW ?_
 by_cases hlt : i < lx.length
 ·obtain ⟨ga, oa, rfl, hga, hata⟩ := hra (by omega)
  refine KGO ?_
  refine Store.fresh (vs := prC lx[i]) (by rfl) rfl (zax (by rfl)) ?_
  obtain ⟨a_b2, k_w2, z_w2⟩ := new3 wr 44 (prC lx[i])
  generalize wr.alloc (.cells (List.toArray (prC lx[i])) 44) = w2 at *
  generalize hs_b2 : wr.heap.size = b2 at *
  have K2 := hK.trans0 k_w2
  refine KGO ?_
  refine CallS.of (Tryz.call81 _ _) (bs_I (w := w2) docs lx[i].p.doc (hv0.keep (k1.trans0 K2)) hl) ?_
  rintro e w3 ⟨k, b, rfl, hb, k3⟩
  rw [hb hs]
  refine RT ?_
  have K3 := K2.trans0 k3
  have hsn : (lx.take (i + 1)).all (fun x => decide (x.p.doc ∈ docs)) = ((lx.take i).all (fun x => decide (x.p.doc ∈ docs)) && decide (lx[i].p.doc ∈ docs)) := by
   rw [List.take_succ_eq_append_getElem hlt, List.all_append]; simp
  cases hq : (q && (lx.take i).all fun x => decide (x.p.doc ∈ docs)) with
  | false =>
   refine KGO ?_
   exact ⟨i + 1, ⟨rfl, rfl, by simp only [hsn, ← Bool.and_assoc, hq]; rfl, rfl, rfl, v_int (by simp), trivial⟩, ⟨K3, by omega⟩, by dsimp only; omega⟩
  | true =>
   refine KGO ?_
   exact ⟨i + 1, ⟨rfl, rfl, by simp only [hsn, ← Bool.and_assoc, hq]; rfl, rfl, rfl, v_int (by simp), trivial⟩, ⟨K3, by omega⟩, by dsimp only; omega⟩
 ·rw [List.take_of_length_le (by omega)]
  have hall : (lx.map (·.p)).all (fun x => decide (x.doc ∈ docs)) = lx.all fun x => decide (x.p.doc ∈ docs) := by rw [List.all_map]; rfl
  rw [hall]
  cases hq : (q && lx.all fun x => decide (x.p.doc ∈ docs)) with
  | false =>
   refine KGO ?_
   exact ⟨rfl, k1.trans0 hK⟩
  | true =>
   refine KGO ?_
   exact ⟨zal (by simp), k1.trans0 hK⟩
end
end Go.Proofs.YtennokckmjcefaaGreatDoor
