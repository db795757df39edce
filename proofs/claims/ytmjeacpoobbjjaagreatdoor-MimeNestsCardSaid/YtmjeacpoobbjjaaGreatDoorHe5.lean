/- Helper lemmas that the proved statement rests on; no conditions of their own. -/
import Derived.Test.YtmjeacpoobbjjaaGreatDoorGYc5
set_option linter.unusedVariables false
set_option maxHeartbeats 8000000
set_option maxRecDepth 100000
namespace Go.Proofs.YtmjeacpoobbjjaaGreatDoor
open Go.Shelf Go.RowKit Go.Pw Go.Vc Go.Cs Go.Lib Go.Tk Go.Hd
def hitH (n : List UInt8) (f : Fld) : Bool := !f.bad && smallH f.name == smallH n
def valH (f : Fld) : List UInt8 := Lib.trimS (unfoldH f.value) [32, 9]
def valsH (l : List Fld) (n : List UInt8) : List (List UInt8) := (l.filter (hitH n)).map valH
theorem ziU (l : List Fld) (n : List UInt8) : getH l n = (valsH l n).head? := by
 unfold getH valsH
 rw [List.head?_map, List.head?_filter]; rfl
def SmF (f : Fld) : Prop := f.name.length ≤ 100000000 ∧ f.value.length ≤ 100000000
theorem zey (s : List UInt8) : (smallH s).length = s.length := List.length_map _
theorem zaD {a b : List UInt8} : str a = str b ↔ a = b := ⟨fun h => by have := congrArg L h; rwa [L_str, L_str] at this, fun h => by rw [h]⟩
section
variable {w : World}
theorem zkc (a : Option Addr) (n c : Nat) (nm : List UInt8) (hn : nm.length ≤ 100000000) (w : World) : Calls Tryz.prog 44 #[.slice a n c, .string (str nm)] w fun e w' => ∃ b1 b2, e = .returned (.func (.func 70) #[] #[.pointer (some ⟨b1, 0, none⟩), .pointer (some ⟨b2, 0, none⟩)]) ∧
  VarK w' b1 32 [.slice a n c] ∧ VarK w' b2 9 [.string (str (smallH nm))] ∧ w.heap.size ≤ b1 ∧ b1 < b2 ∧ Kp w w' n_ := by
 refine zaa (args := [.slice a n c, .string (str nm)]) Tryz.func44 rfl NL ?_; refine GW ?_
 obtain ⟨a_b1, v_b1, k_w1, z_w1, r_w1⟩ := new5 w 32 ([.slice a n c])
 generalize w.alloc (.cells (List.toArray ([.slice a n c])) 32) = w1 at *
 generalize hs_b1 : w.heap.size = b1 at *
 obtain ⟨a_b2, v_b2, k_w2, z_w2, r_w2⟩ := new5 w1 9 ([.string (str nm)])
 generalize w1.alloc (.cells (List.toArray ([.string (str nm)])) 9) = w2 at *
 generalize hs_b2 : w1.heap.size = b2 at *
 have v1 := v_b1.keep0 k_w2
 have a2 := v_b2.at
 have q2 := Kp.refl w2 n_
 refine KGO ?_
 refine CallS.of (Tryz.call69 _ _) (zhb nm hn w2) ?_
 rintro e w3 ⟨rfl, k3⟩
 refine RT ?_
 have v1 := v1.keep0 k3
 refine Store.cellK (i := 0) (v_b2.keep0 k3) (by simp) (by rfl) ⟨rfl, by simp, by simp⟩ fun w4 v4 k4 => ?_
 have v1 := v1.keep k4 (fun e => by have e : b1 = b2 := e; omega)
 refine KGO ?_
 exact ⟨b1, b2, rfl, v1, v4, by omega, by omega, zab ((k_w1.trans0 k_w2).trans0 k3) k4 (by omega)⟩
theorem zkJ {LL b1 b2 c : Nat} {a : Option Addr} {w0 : World} (l : List Fld) (nm : List UInt8) (hr : RowO w0 (.slice a l.length c) fdC l) (hm : MaxL w0) (hl : l.length ≤ 100000000) (hsm : ∀ f ∈ l, SmF f)
  (J Jx : List (List UInt8) → World → Prop) (hJ : ∀ pre W, J pre W → Kp w0 W n_) (hJk : ∀ pre W W', J pre W → Kp W W' n_ → J pre W')
  (hY : ∀ pre x W, J pre W → (∃ rest, pre ++ x :: rest = valsH l nm) → YieldS Tryz.prog LL [.string (str x)] W fun v W' => (v = .bool true ∧ J (pre ++ [x]) W') ∨ (v = .bool false ∧ Jx (pre ++ [x]) W'))
  (v1 : VarK w0 b1 32 [.slice a l.length c]) (v2 : VarK w0 b2 9 [.string (str (smallH nm))]) (h0 : J [] w) :
  Calls Tryz.prog 70 #[.func (.yield LL) #[] #[], .pointer (some ⟨b1, 0, none⟩), .pointer (some ⟨b2, 0, none⟩)] w fun e W' => (∃ v, e = .returned v) ∧ ((∃ xs, xs = valsH l nm ∧ J xs W') ∨ ∃ pre, Jx pre W') := by
 refine zaa (args := [.func (.yield LL) #[] #[], .pointer (some ⟨b1, 0, none⟩), .pointer (some ⟨b2, 0, none⟩)]) Tryz.func70 rfl NL ?_; refine GW ?_
 have K0 := hJ _ _ h0
 have a1 := (v1.keep0 K0).at
 have q0 := Kp.refl w n_
 refine KGO ?_
 refine Loop.intro (ι := Nat) (fun i => [(0, .func (.yield LL) #[] #[]), (1, .pointer (some ⟨b1, 0, none⟩)), (2, .pointer (some ⟨b2, 0, none⟩)), (6, .slice a l.length c), (7, .int .i64 (l.length : Nat)), (8, .int .i64 (i : Nat))])
  (fun i wr => J (valsH (l.take i) nm) wr ∧ i ≤ l.length) (fun i => l.length - i) 0 ⟨rfl, rfl, rfl, rfl, rfl, rfl, trivial⟩ ⟨h0, Nat.zero_le _⟩ ?_
 clear h0 K0 a1 q0
 rintro i g wr ⟨hj, hi⟩
 have hK := hJ _ _ hj
 refine GW ?_
 by_cases hlt : i < l.length
 ·obtain ⟨_, _, he, hr⟩ := hr
  injection he with e1 e2 e3
  subst e1; subst e3
  obtain ⟨gb, o, rfl, hgb, hat⟩ := hr (by omega)
  have hat := zar hat hK
  have q0 := Kp.refl wr n_
  refine KGO ?_
  obtain ⟨F, hF⟩ : ∃ F : Fld, F = l[i] := ⟨_, rfl⟩
  have hFm : SmF F := by rw [hF]; exact hsm _ (List.getElem_mem hlt)
  have htk : valsH (l.take (i + 1)) nm = valsH (l.take i) nm ++ (if hitH nm F = true then [valH F] else []) := by
   unfold valsH
   rw [List.take_succ_eq_append_getElem hlt, List.filter_append, List.filter_cons, ← hF, List.map_append]
   split <;> rfl
  have hrest : hitH nm F = true → ∃ rest, valsH (l.take i) nm ++ valH F :: rest = valsH l nm := fun h => by
   refine ⟨valsH (l.drop (i + 1)) nm, ?_⟩
   have e : l = l.take i ++ F :: l.drop (i + 1) := by rw [hF, ← List.drop_eq_getElem_cons hlt, List.take_append_drop]
   conv => rhs; rw [e]
   unfold valsH
   rw [List.filter_append, List.filter_cons, if_pos h, List.map_append, List.map_cons]
  rw [← hF]
  obtain ⟨a_b5, v_b5, k_w1, z_w1, r_w1⟩ := new5 wr 64 ([.string ⟨#[]⟩, .string ⟨#[]⟩, .string ⟨#[]⟩, .bool false])
  generalize wr.alloc (.cells (List.toArray ([.string ⟨#[]⟩, .string ⟨#[]⟩, .string ⟨#[]⟩, .bool false])) 64) = w1 at *
  generalize hs_b5 : wr.heap.size = b5 at *
  refine KGO ?_
  refine SVK (fdC F) v_b5 fun w3 v3 k3 => ?_
  have kr3 : Kp wr w3 n_ := zab k_w1 k3 (by omega)
  have hj3 := hJk _ _ _ hj kr3
  have K3 := hJ _ _ hj3
  have kd := (Kp.refl w3 n_).drew
  refine KGO ?_
  refine Draw.heldTail 16 (fun u => Kp w3 u n_) (fun _ => true) (by decide +kernel) (by decide +kernel) kd ?_
  refine GW ?_
  refine KGO ?_
  refine Held.one (by rfl) (fun u hu => (v3.keep0 hu).at 3 _ rfl) ?_
  have hdf : hitH nm F = (!F.bad && smallH F.name == smallH nm) := rfl
  cases hbad : F.bad
  all_goals rw [hbad] at hdf
  ·refine KGO ?_
   refine Held.one (by rfl) (fun u hu => (v3.keep0 hu).at 0 _ rfl) ?_
   refine KGO ?_
   refine CallS.of (Tryz.call69 _ _) (zhb F.name hFm.1 w3.drew) ?_
   rintro e w4 ⟨rfl, k4⟩
   have k34 := kd.trans0 k4
   refine RT ?_
   refine ⟨k34, ?_⟩
   refine KGO ?_
   refine Held.one (by rfl) (fun u hu => ((v2.keep0 K3).keep0 hu).at 0 _ rfl) ?_
   by_cases hs : smallH F.name = smallH nm
   ·have hh : hitH nm F = true := by rw [hdf, hs]; simp
    rw [hs]
    refine KGO ?_
    refine Held.one (by rfl) (fun u hu => (v3.keep0 hu).at 1 _ rfl) ?_
    refine KGO ?_
    have hul := zdH F.value
    have hFv := hFm.2
    refine CallS.of (Tryz.call72 _ _) (ziV (w := w4) F.value (hm.keep (K3.trans0 k34)) hFm.2) ?_
    rintro e w5 ⟨rfl, k5⟩
    have k35 := k34.trans0 k5
    refine RT ?_
    refine ⟨k35, ?_⟩
    refine KGO ?_
    refine CallS.of (Tryz.call71 _ _) (ziv (str (unfoldH F.value)) w5 (by rw [zae]; omega)) ?_
    rintro e w6 ⟨rfl, k6⟩
    have k36 := k35.trans0 k6
    rw [L_str, show Lib.trimS (unfoldH F.value) [32, 9] = valH F from rfl]
    refine RT ?_
    refine ⟨k36, ?_⟩
    refine KGO ?_
    have hy := hY _ (valH F) w6 (hJk _ _ _ hj3 k36) (hrest hh)
    rw [if_pos hh] at htk
    refine YieldS.of hy ?_
    rintro v w7 (⟨rfl, hj7⟩ | ⟨rfl, hj7⟩)
    ·refine GW ?_
     refine KGO ?_
     exact ⟨i + 1, ⟨rfl, rfl, rfl, rfl, rfl, v_int (by simp), trivial⟩, ⟨by rw [htk]; exact hj7, hlt⟩, by dsimp only; omega⟩
    ·refine GW ?_
     refine KGO ?_
     exact ⟨⟨_, rfl⟩, .inr ⟨_, hj7⟩⟩
   ·have hh : hitH nm F = false := by rw [hdf]; simp [hs]
    rw [hh, if_neg (by simp), List.append_nil] at htk
    refine KGO ?_
    rw [decide_eq_false (fun e => hs (zaD.1 e))]
    refine KGO ?_
    exact ⟨i + 1, ⟨rfl, rfl, rfl, rfl, rfl, v_int (by simp), trivial⟩, ⟨by rw [htk]; exact hJk _ _ _ hj3 k34, hlt⟩, by dsimp only; omega⟩
  ·have hh : hitH nm F = false := by rw [hdf]; rfl
   rw [hh, if_neg (by simp), List.append_nil] at htk
   refine KGO ?_
   exact ⟨i + 1, ⟨rfl, rfl, rfl, rfl, rfl, v_int (by simp), trivial⟩, ⟨by rw [htk]; exact hJk _ _ _ hj3 kd, hlt⟩, by dsimp only; omega⟩
 ·refine KGO ?_
  rw [List.take_of_length_le (by omega)] at hj
  exact ⟨⟨_, rfl⟩, .inl ⟨_, rfl, hj⟩⟩
theorem zbV {l : List Nat} {w : World} {r : Nat} {T : TypeId} {cs : List Value} (h : AllD l w) (v : VarK w r T cs) : r ∉ l := fun hr => by
 have h1 := h.all r hr
 have h2 : w.heap[r]? = some (.cells cs.toArray T) := v
 rw [h2] at h1; cases h1
theorem zch {D : Nat} {w : World} (h : w.heap[D]? = some (.deferred (some []))) : AllD [D] w := ⟨by simp, fun d hd => by
 obtain rfl : d = D := by simpa using hd
 exact h⟩
def getV (o : Option (List UInt8)) : Value :=
 match o with
 | none => .tuple #[.string ⟨#[]⟩, .bool false]
 | some x => .tuple #[.string (str x), .bool true]
theorem zhq {a : Option Addr} {c : Nat} (l : List Fld) (nm : List UInt8) (hr : RowO w (.slice a l.length c) fdC l) (hm : MaxL w) (hl : l.length ≤ 100000000) (hsm : ∀ f ∈ l, SmF f) (hn : nm.length ≤ 100000000) :
  Calls Tryz.prog 29 #[.slice a l.length c, .string (str nm)] w fun e w' => e = .returned (getV (getH l nm)) ∧ Kp w w' n_ := by
 rw [ziU]
 refine zaa (args := [.slice a l.length c, .string (str nm)]) Tryz.func29 rfl NL ?_; refine GW ?_
 obtain ⟨a_r1, v_r1, k_w1, z_w1, r_w1⟩ := new5 w 9 ([.string ⟨#[]⟩])
 generalize w.alloc (.cells (List.toArray ([.string ⟨#[]⟩])) 9) = w1 at *
 generalize hs_r1 : w.heap.size = r1 at *
 obtain ⟨a_r2, v_r2, k_w2, z_w2, r_w2⟩ := new5 w1 4 ([.bool false])
 generalize w1.alloc (.cells (List.toArray ([.bool false])) 4) = w2 at *
 generalize hs_r2 : w1.heap.size = r2 at *
 have u1 := v_r1.keep0 k_w2
 have u2 := v_r2
 have K2 := k_w1.trans0 k_w2
 refine KGO ?_
 refine CallS.of (Tryz.call44 _ _) (zkc a l.length c nm hn w2) ?_
 rintro e w3 ⟨b1, b2, rfl, v1, v2, h1, h2, k3⟩
 have u1 := u1.keep0 k3
 have u2 := u2.keep0 k3
 have K3 := K2.trans0 k3
 have hr1 : r1 < w3.heap.size := u1.lt
 have hr2 : r2 < w3.heap.size := u2.lt
 have hrow : RowO w3 (.slice a l.length c) fdC l := hr.keep K3
 refine RT ?_
 refine Range.intro (α := List UInt8) (fun x => [.string (str x)]) rfl (fun _ _ => rfl) rfl rfl (by decide) (fun _ => rfl) n_ (fun _ h => h.elim)
  (fun pre W => pre = [] ∧ Kp w3 W n_)
  (fun c pre W => c = .ret ∧ ∃ x rest, x :: rest = valsH l nm ∧ Kp w3 W (fun q => q = r1 ∨ q = r2) ∧ VarK W r1 9 [.string (str x)] ∧ VarK W r2 4 [.bool true])
  (fun xs => xs = valsH l nm) (fun pre x => ∃ rest, pre ++ x :: rest = valsH l nm) ?_ ?_ ?_ ?_ ?_ ?_ ?_
 ·rintro pre W W' ⟨rfl, i1⟩ hsz kk
  refine ⟨rfl, i1.trans kk fun i hi e => ?_⟩
  rcases e with e | e
  ·exact e.elim
  ·omega
 ·rintro c pre W W' ⟨rfl, x, rest, hx, i2, i3, i4⟩ hsz kk
  refine ⟨rfl, x, rest, hx, i2.trans kk fun i hi e => ?_, i3.keep kk (fun e => ?_), i4.keep kk (fun e => ?_)⟩
  ·rcases e with e | e
   ·exact e.elim
   ·omega
  ·rcases e with e | e
   ·exact e.elim
   ·omega
  ·rcases e with e | e
   ·exact e.elim
   ·omega
 ·intro W kk hsz
  exact ⟨rfl, kk⟩
 ·intro J Jx hJI hJab hJxab hY W hW
  have := zkJ (w := W) (w0 := w3) (LL := w3.heap.size + 1) (b1 := b1) (b2 := b2) (a := a) (c := c) l nm hrow (hm.keep K3) hl hsm J Jx (fun pre W h => (hJI pre W h).1.2) hJab
   (fun pre x W hj hp => hY pre x W hj hp) v1 v2 hW
  simpa using this
 ·rintro pre x W ⟨rfl, i1⟩ ⟨rest, hx⟩ hsz
  refine GW ?_
  refine ⟨⟨⟨rfl, rfl⟩, fun W2 k2 z2 => ?_⟩⟩
  refine GW ?_
  have j1 : Kp w3 W2 n_ := i1.trans k2 fun i hi e => by have e : i = w3.heap.size + 1 := e; omega
  have s1 := u1.keep0 j1
  have s2 := u2.keep0 j1
  refine Store.cellK (i := 0) s1 (by simp) (by rfl) ⟨rfl, by simp, by simp⟩ fun W3 v3 k3 => ?_
  refine KGO ?_
  refine Store.cellK (i := 0) (s2.keep k3 (fun e => by have e : r2 = r1 := e; omega)) (by simp) (by rfl) ⟨rfl, by simp, by simp⟩ fun W4 v4 k4 => ?_
  have v3 := v3.keep k4 (fun e => by have e : r1 = r2 := e; omega)
  have k24 : Kp W2 W4 (fun q => q = r1 ∨ q = r2) := (k3.mono fun q _ e => .inl e).trans' (k4.mono fun q _ e => .inr e)
  refine KGO ?_
  refine ⟨⟨Rec2.of k24 (by omega) (fun e => by rcases e with e | e <;> omega) (fun e => by rcases e with e | e <;> omega), rfl, x, rest, hx, (j1.of_none).trans' k24, v3, v4⟩⟩
 ·rintro xs W rfl ⟨hnil, i1⟩ hsz hdf
  rw [hnil]
  have s1 := u1.keep0 i1
  have s2 := u2.keep0 i1
  refine KGO ?_
  refine Store.cellK (i := 0) s1 (by simp) (by rfl) ⟨rfl, by simp, by simp⟩ fun W3 v3 k3 => ?_
  refine KGO ?_
  refine Store.cellK (i := 0) (s2.keep k3 (fun e => by have e : r2 = r1 := e; omega)) (by simp) (by rfl) ⟨rfl, by simp, by simp⟩ fun W4 v4 k4 => ?_
  have v3 := v3.keep k4 (fun e => by have e : r1 = r2 := e; omega)
  have k4' : Kp W W4 (fun q => q = r1 ∨ q = r2) := (k3.mono fun q _ e => .inl e).trans' (k4.mono fun q _ e => .inr e)
  have hD : AllD [w3.heap.size] W4 := zch ((k4'.block _ (by omega) (fun e => by rcases e with e | e <;> omega)).trans hdf)
  have K4 : Kp w W4 n_ := (K3.trans0 i1).trans k4' fun i hi e => by rcases e with e | e <;> omega
  refine KGO ?_
  refine ⟨hD, fun wz kz => ?_⟩
  have az := (v3.keep kz (zbV hD v3)).at
  have bz := (v4.keep kz (zbV hD v4)).at
  have qz := Kp.refl wz n_
  have Kz : Kp w wz n_ := Kp.trans K4 kz (fun i hi e => by have e := List.mem_singleton.1 e; omega)
  refine GW ?_
  refine KGO ?_
  refine GW ?_
  refine KGO ?_
  refine GW ?_
  exact ⟨rfl, Kz⟩
 ·rintro c pre W ⟨rfl, x, rest, hx, i2, i3, i4⟩ hsz hdf
  rw [← hx]
  have hD : AllD [w3.heap.size] W := zch hdf
  have K4 : Kp w W n_ := K3.trans i2 fun i hi e => by rcases e with e | e <;> omega
  refine KGO ?_
  refine ⟨hD, fun wz kz => ?_⟩
  have az := (i3.keep kz (zbV hD i3)).at
  have bz := (i4.keep kz (zbV hD i4)).at
  have qz := Kp.refl wz n_
  have Kz : Kp w wz n_ := Kp.trans K4 kz (fun i hi e => by have e := List.mem_singleton.1 e; omega)
  refine GW ?_
  refine KGO ?_
  refine GW ?_
  refine KGO ?_
  refine GW ?_
  exact ⟨rfl, Kz⟩
end
end Go.Proofs.YtmjeacpoobbjjaaGreatDoor
