/- Helper lemmas that the proved statement rests on; no conditions of their own. -/
import Derived.Test.YtmjeacpoobbjjaaGreatDoorYc8
set_option linter.unusedVariables false
set_option maxHeartbeats 8000000
set_option maxRecDepth 100000
namespace Go.Proofs.YtmjeacpoobbjjaaGreatDoor
open Go.Shelf Go.RowKit Go.Pw Go.Vc Go.Cs Go.Lib Go.Tk Go.Hd Go.Ty
theorem zbK (t : Tkn) (l : List Tkn) : joinT (t :: l) = t.2 ++ joinT l := by unfold joinT; rw [List.flatMap_cons]
theorem zdc : ∀ (l : List Tkn), (rowsC l).length ≤ l.length + 1 ∧ ∀ r ∈ rowsC l, r.length ≤ l.length ∧ (joinT r).length ≤ (joinT l).length
 | [] => ⟨Nat.le_refl _, fun r hr => by
  have e : r = [] := by simpa [rowsC] using hr
  rw [e]; exact ⟨Nat.le_refl _, Nat.le_refl _⟩⟩
 | t :: l => by
  obtain ⟨h1, h2⟩ := zdc l
  have hj : (joinT (t :: l)).length = t.2.length + (joinT l).length := by rw [zbK, List.length_append]
  unfold rowsC
  split
  ·refine ⟨by simp only [List.length_cons]; omega, fun r hr => ?_⟩
   rcases List.mem_cons.1 hr with rfl | hr
   ·exact ⟨Nat.zero_le _, Nat.zero_le _⟩
   ·have := h2 r hr
    exact ⟨by simp only [List.length_cons]; omega, by omega⟩
  ·cases hr0 : rowsC l with
   | nil => exact absurd hr0 (zcf l)
   | cons a b =>
    rw [hr0] at h1 h2
    refine ⟨by simp only [List.length_cons] at h1 ⊢; omega, fun r hr => ?_⟩
    rcases List.mem_cons.1 hr with rfl | hr
    ·have := h2 a List.mem_cons_self
     rw [zbK, List.length_append]
     exact ⟨by simp only [List.length_cons]; omega, by omega⟩
    ·have := h2 r (List.mem_cons_of_mem _ hr)
     exact ⟨by simp only [List.length_cons]; omega, by omega⟩
theorem zfk : ∀ l : List Tkn, (joinT (bareT l)).length ≤ (joinT l).length
 | [] => Nat.le_refl _
 | t :: l => by
  have ih := zfk l
  unfold bareT at ih ⊢
  rw [List.filter_cons, zbK, List.length_append]
  split
  ·rw [zbK, List.length_append]; omega
  ·omega
def tyV (T : Typ) (v : Value) : List Value := [.string (str T.kind), .string (str T.sub), v]
theorem zbX (a b : ByteArray) (w : World) : (Instr.build 24 [(0, .string a), (1, .string b)].toArray).run Tryz.prog w = .ok (.agg #[.string a, .string b, .slice none 0 0]) w := by
 simp [Instr.build, go_sem, Tryz.runUnderlying24]
theorem zji (a b : ByteArray) (x : Option Addr) (n c : Nat) (w : World) : (Instr.build 24 [(0, .string a), (1, .string b), (2, .slice x n c)].toArray).run Tryz.prog w = .ok (.agg #[.string a, .string b, .slice x n c]) w := by
 simp [Instr.build, go_sem, Tryz.runUnderlying24]
section
variable {w : World}
theorem zhg (s : List UInt8) (hT : Tabs w) (hm : MaxL w) (hE : ErrL w) (hs : s.length ≤ 900000) : Calls Tryz.prog 49 #[.string (str s)] w fun e w' => ∃ v, e = .returned (.tuple #[.agg (tyV (typeC s).1 v).toArray, .bool (typeC s).2]) ∧ OwnPa w' w.heap.size v (typeC s).1.params ∧ Kp w w' n_ := by
 have hz := zae s
 have hbl := zfk (scanT s)
 have hsl := zbm s
 have hbn : (bareT (scanT s)).length ≤ (scanT s).length := List.length_filter_le _ _
 obtain ⟨hr1, hr2⟩ := zdc (bareT (scanT s))
 have hjs : (joinT (scanT s)).length ≤ s.length := hsl.1
 have hty : typeC s = if (Lib.cut (joinT ((rowsC (bareT (scanT s))).headD [])) [47]).2.2 = true ∧ wordC (Lib.cut (joinT ((rowsC (bareT (scanT s))).headD [])) [47]).1 = true ∧ wordC (Lib.cut (joinT ((rowsC (bareT (scanT s))).headD [])) [47]).2.1 = true then
   (⟨smallH (Lib.cut (joinT ((rowsC (bareT (scanT s))).headD [])) [47]).1, smallH (Lib.cut (joinT ((rowsC (bareT (scanT s))).headD [])) [47]).2.1, listC ((rowsC (bareT (scanT s))).drop 1)⟩, true) else (⟨tText, tPlain, []⟩, false) := rfl
 refine zaa (args := [.string (str s)]) Tryz.func49 rfl NL ?_; refine GW ?_
 obtain ⟨a_r1, v_r1, k_w1, z_w1, r_w1⟩ := new5 w 24 ([.string ⟨#[]⟩, .string ⟨#[]⟩, .slice none 0 0])
 generalize w.alloc (.cells (List.toArray ([.string ⟨#[]⟩, .string ⟨#[]⟩, .slice none 0 0])) 24) = w1 at *
 generalize hs_r1 : w.heap.size = r1 at *
 refine KGO ?_
 refine CallS.of (Tryz.call77 _ _) (zkZ s (by omega) w1) ?_
 rintro e w2 ⟨v, rfl, hv, k2⟩
 have K2 := k_w1.trans0 k2
 have hlne := zcf (bareT (scanT s))
 generalize rowsC (bareT (scanT s)) = l at *
 obtain ⟨hs', hrow, hcap, hml, hrs⟩ := hv
 obtain ⟨a, cap, rfl, hrow⟩ := hrow
 have hcq := hcap _ _ _ rfl
 have hll : hs'.length = l.length := by rw [← hml, List.length_map]
 cases hs' with
 | nil => rw [← hml] at hlne; exact absurd rfl hlne
 | cons x0 xs =>
 obtain ⟨gb, o, rfl, hgb, hat⟩ := hrow (by simp)
 have hl0 : l = x0.2 :: xs.map (·.2) := by rw [← hml]; rfl
 have hld : l.drop 1 = xs.map (·.2) := by rw [hl0]; rfl
 obtain ⟨h0r, h0c⟩ := hrs x0 List.mem_cons_self
 have h0s := hr2 x0.2 (by rw [hl0]; exact List.mem_cons_self)
 have hc0 : w2.cell? ⟨gb, o + 0, none⟩ = some x0.1.v := hat 0 _ rfl
 rw [show l.headD [] = x0.2 by rw [hl0]; rfl] at hty
 rw [hty]
 have hxl : (x0 :: xs).length = xs.length + 1 := rfl
 refine RT ?_
 refine KGO ?_
 refine CallS.of (Tryz.call78 _ _) (zeN (w := w2) x0.2 h0r (by omega) (by omega)) ?_
 rintro e w3 ⟨rfl, k3⟩
 have K3 := K2.trans0 k3
 refine RT ?_
 refine KGO ?_
 refine CallS.of (Tryz.call66 _ _) (s_cut (str (joinT x0.2)) ⟨#[47]⟩ w3 (hm.keep K3) (by rw [zae]; omega)) ?_
 rintro e w4 ⟨rfl, k4⟩
 have K4 := K3.trans0 k4
 rw [L_str, show L ⟨#[47]⟩ = [47] from rfl]
 have hcl := zdK (joinT x0.2) [47]
 generalize Lib.cut (joinT x0.2) [47] = C at *
 obtain ⟨C1, C2, C3⟩ := C
 dsimp only at hcl ⊢
 have vr4 := (v_r1.keep0 k2).keep0 (k3.trans0 k4)
 have hb1 : w.heap.size ≤ r1 := by omega
 refine RT ?_
 cases C3
 ·rw [if_neg (by simp)]
  refine KGO ?_
  refine RunV.of (zbX ⟨#[116, 101, 120, 116]⟩ ⟨#[112, 108, 97, 105, 110]⟩ _) ?_
  refine KGO ?_
  refine SVK (tyV ⟨tText, tPlain, []⟩ (.slice none 0 0)) vr4 fun wz vz kz => ?_
  have az := vz.at
  have qz := Kp.refl wz n_
  refine KGO ?_
  refine GW ?_
  exact ⟨_, rfl, World.ownsRow_nil _ _ _ _, zab K4 kz hb1⟩
 ·refine KGO ?_
  refine CallS.of (Tryz.call79 _ _) (ziD C1 (by omega) w4) ?_
  rintro e w5 ⟨rfl, k5⟩
  have K5 := K4.trans0 k5
  have vr5 := vr4.keep0 k5
  cases hw1 : wordC C1
  ·rw [if_neg (by simp)]
   refine RT ?_
   refine KGO ?_
   refine RunV.of (zbX ⟨#[116, 101, 120, 116]⟩ ⟨#[112, 108, 97, 105, 110]⟩ _) ?_
   refine KGO ?_
   refine SVK (tyV ⟨tText, tPlain, []⟩ (.slice none 0 0)) vr5 fun wz vz kz => ?_
   have az := vz.at
   have qz := Kp.refl wz n_
   refine KGO ?_
   refine GW ?_
   exact ⟨_, rfl, World.ownsRow_nil _ _ _ _, zab K5 kz hb1⟩
  ·refine RT ?_
   refine KGO ?_
   refine CallS.of (Tryz.call79 _ _) (ziD C2 (by omega) w5) ?_
   rintro e w6 ⟨rfl, k6⟩
   have K6 := K5.trans0 k6
   have vr6 := vr5.keep0 k6
   cases hw2 : wordC C2
   ·rw [if_neg (by simp)]
    refine RT ?_
    refine KGO ?_
    refine RunV.of (zbX ⟨#[116, 101, 120, 116]⟩ ⟨#[112, 108, 97, 105, 110]⟩ _) ?_
    refine KGO ?_
    refine SVK (tyV ⟨tText, tPlain, []⟩ (.slice none 0 0)) vr6 fun wz vz kz => ?_
    have az := vz.at
    have qz := Kp.refl wz n_
    refine KGO ?_
    refine GW ?_
    exact ⟨_, rfl, World.ownsRow_nil _ _ _ _, zab K6 kz hb1⟩
   ·rw [if_pos ⟨rfl, rfl, rfl⟩]
    refine RT ?_
    refine KGO ?_
    have kd := (Kp.refl w6 n_).drew
    refine CallS.of (Tryz.call73 _ _) (zbd C1 (by omega) w6.drew) ?_
    rintro e w7 ⟨rfl, k7⟩
    refine RT ?_
    refine KGO ?_
    refine CallS.of (Tryz.call73 _ _) (zbd C2 (by omega) w7) ?_
    rintro e w8 ⟨rfl, k8⟩
    have K8 := ((K6.trans0 kd).trans0 k7).trans0 k8
    have vr8 := ((vr6.keep0 kd).keep0 k7).keep0 k8
    refine RT ?_
    refine KGO ?_
    refine Cut.from (l := 1) (by omega) (by omega) ?_
    refine GW ?_
    have k28 : Kp w2 w8 n_ := ((((((k3.trans0 k4).trans0 k5).trans0 k6).trans0 kd).trans0 k7).trans0 k8)
    have hrf := zcS (i := 1) lenTr (zar hat k28) (Nat.lt_of_lt_of_le hgb k28.size) hcq (by omega)
    have htt : RowTT w8 (.slice (some ⟨gb, if 1 = cap then o else o + 1 * 1, none⟩) ((x0 :: xs).length - 1) (cap - 1)) (l.drop 1) :=
     ⟨xs, hrf, fun a n c e => by (injection e with _ e1 e2; omega), hld.symm, fun y hy => ⟨(hrs y (List.mem_cons_of_mem _ hy)).1.keep k28, (hrs y (List.mem_cons_of_mem _ hy)).2⟩⟩
    have hsmr : ∀ r ∈ l.drop 1, SmR r := fun r hr => by
     have := hr2 r (List.mem_of_mem_drop hr)
     exact ⟨by omega, by omega⟩
    refine KGO ?_
    refine CallS.of (Tryz.call80 _ _) (zlv (w := w8) (l.drop 1) htt (hT.keep K8) (hm.keep K8) (hE.keep K8) (by rw [List.length_drop]; omega) hsmr) ?_
    rintro e w9 ⟨v9, rfl, o9, k9⟩
    obtain ⟨a9, c9, rfl⟩ := zad o9
    have K9 := K8.trans0 k9
    refine RT ?_
    refine KGO ?_
    refine RunV.of (zji (str (smallH C1)) (str (smallH C2)) a9 _ c9 _) ?_
    refine KGO ?_
    refine Store.varK (tyV ⟨smallH C1, smallH C2, listC (l.drop 1)⟩ (.slice a9 (listC (l.drop 1)).length c9)) (vr8.keep0 k9) (by rfl) rfl (zaB (by rfl)) fun wz vz kz => ?_
    have az := vz.at
    have qz := Kp.refl wz n_
    refine KGO ?_
    refine GW ?_
    refine ⟨_, rfl, zan (zaf o9 kz fun q hq e => ?_) (by have := K8.size; omega), zab K9 kz hb1⟩
    obtain ⟨_, _, _, h3, _⟩ := zah o9 hq
    have e : q = r1 := e
    have := vr8.lt
    omega
end
section
variable {w : World}
theorem zcJ {α : Type} {p : α → Bool} {l : List α} (h : ∀ x ∈ l, p x = false) : l.find? p = none := List.find?_eq_none.2 fun x hx => by rw [h x hx]; simp
theorem zlj {α : Type} {p : α → Bool} {l : List α} {i : Nat} (hi : i < l.length) (h1 : ∀ x ∈ l.take i, p x = false) (h2 : p l[i] = true) : l.find? p = some l[i] := by
 have e : l = l.take i ++ l[i] :: l.drop (i + 1) := by rw [← List.drop_eq_getElem_cons hi, List.take_append_drop]
 conv => lhs; rw [e]
 rw [List.find?_append, zcJ h1, List.find?_cons_of_pos h2]; rfl
theorem zks {v : Value} (l : List (List UInt8 × List UInt8)) (nm : List UInt8) (hr : RowO w v paC l) (hl : l.length ≤ 100000000) (hsm : ∀ x ∈ l, x.1.length ≤ 100000000) (hn : nm.length ≤ 100000000) : Calls Tryz.prog 46 #[v, .string (str nm)] w fun e w' => e = .returned (valV (paramC l nm)) ∧ Kp w w' n_ := by
 obtain ⟨a, cap, rfl, hr⟩ := hr
 have hpd : paramC l nm = (l.find? fun x => smallH x.1 == smallH nm).map (·.2) := rfl
 refine zaa (args := [.slice a l.length cap, .string (str nm)]) Tryz.func46 rfl NL ?_; refine GW ?_
 refine Loop.intro (ι := Nat) (fun i => [(1, .string (str nm)), (8, .slice a l.length cap), (9, .int .i64 (l.length : Nat)), (10, .int .i64 (i : Nat))])
  (fun i wr => Kp w wr n_ ∧ i ≤ l.length ∧ ∀ x ∈ l.take i, (smallH x.1 == smallH nm) = false) (fun i => l.length - i) 0 ⟨rfl, rfl, rfl, rfl, trivial⟩
  ⟨Kp.refl _ _, Nat.zero_le _, fun x hx => by simp at hx⟩ ?_
 rintro i g wr ⟨hK, hi, hno⟩
 refine GW ?_
 by_cases hlt : i < l.length
 ·obtain ⟨gb, o, rfl, hgb, hat⟩ := hr (by omega)
  have hat := zar hat hK
  have q0 := Kp.refl wr n_
  have hsx := hsm _ (List.getElem_mem hlt)
  have hfa := zlj (p := fun x : List UInt8 × List UInt8 => smallH x.1 == smallH nm) hlt hno
  have hmem : ∀ x ∈ l.take (i + 1), x ∈ l.take i ∨ x = l[i] := fun x hx => by
   rw [List.take_succ_eq_append_getElem hlt] at hx
   rcases List.mem_append.1 hx with hx | hx
   ·exact .inl hx
   ·exact .inr (by simpa using hx)
  refine KGO ?_
  obtain ⟨X, hX⟩ : ∃ X : List UInt8 × List UInt8, X = l[i] := ⟨_, rfl⟩
  rw [← hX] at hsx hfa hmem ⊢
  obtain ⟨a_b1, v_b1, k_w1, z_w1, r_w1⟩ := new5 wr 94 ([.string ⟨#[]⟩, .string ⟨#[]⟩])
  generalize wr.alloc (.cells (List.toArray ([.string ⟨#[]⟩, .string ⟨#[]⟩])) 94) = w1 at *
  generalize hs_b1 : wr.heap.size = b1 at *
  refine KGO ?_
  refine SVK (paC X) v_b1 fun w3 v3 k3 => ?_
  have kr3 := zab k_w1 k3 (by omega)
  have K3 := hK.trans0 kr3
  have a3 := v3.at
  have r3 := Kp.refl w3 n_
  refine KGO ?_
  refine CallS.of (Tryz.call73 _ _) (zbd X.1 hsx w3) ?_
  rintro e w4 ⟨rfl, k4⟩
  refine RT ?_
  refine KGO ?_
  refine CallS.of (Tryz.call73 _ _) (zbd nm hn w4) ?_
  rintro e w5 ⟨rfl, k5⟩
  have k35 := k4.trans0 k5
  have K5 := K3.trans0 k35
  have a5 := (v3.keep0 k35).at
  have r5 := Kp.refl w5 n_
  refine RT ?_
  refine KGO ?_
  by_cases hs : smallH X.1 = smallH nm
  ·rw [hpd, hfa (by rw [hs]; simp)]
   rw [decide_eq_true (zaD.2 hs)]
   refine KGO ?_
   exact ⟨rfl, K5⟩
  ·rw [decide_eq_false (fun e => hs (zaD.1 e))]
   refine KGO ?_
   exact ⟨i + 1, ⟨rfl, rfl, rfl, v_int (by simp), trivial⟩, ⟨K5, hlt, fun x hx => by
    rcases hmem x hx with hx | rfl
    ·exact hno x hx
    ·exact beq_eq_false_iff_ne.2 hs⟩, by dsimp only; omega⟩
 ·rw [List.take_of_length_le (by omega)] at hno
  rw [hpd, zcJ hno]
  refine KGO ?_
  exact ⟨rfl, hK⟩
end
end Go.Proofs.YtmjeacpoobbjjaaGreatDoor
namespace Go.Me
open Go Go.Cs Go.Tk Go.Hd Go.Ty
def boundM (l b : List UInt8) : Bool × Bool :=
 if Lib.hasPrefix l ([45, 45] ++ b) = true then
  let rest := l.drop (b.length + 2)
  (decide (Lib.trimS (bareH (Lib.trimPrefix rest [45, 45])) [32, 9] = []), Lib.hasPrefix rest [45, 45])
 else (false, false)
def cutM (s : List UInt8) (o a : Nat) : Nat :=
 if o < a ∧ s.getD (a - 1) 0 = 10 then (if o < a - 1 ∧ s.getD (a - 2) 0 = 13 then a - 2 else a - 1) else a
def addM (s : List UInt8) (o : Option Nat) (a : Nat) : List (Nat × Nat) :=
 match o with
 | none => []
 | some o => [(o, cutM s o a)]
def bodF (s b : List UInt8) : Nat → Nat → Option Nat → List (Nat × Nat)
 | 0, _, _ => []
 | k + 1, a, o =>
  if a < s.length then
   let l := (s.drop a).take (endH (s.drop a))
   let e := a + endH (s.drop a)
   if (boundM l b).1 = true then
    (if (boundM l b).2 = true then addM s o a else addM s o a ++ bodF s b k e (some e))
   else bodF s b k e o
  else match o with
   | none => []
   | some o => [(o, s.length)]
def bodiesM (s : List UInt8) (a : Nat) (b : List UInt8) : List (Nat × Nat) := bodF s b (s.length + 1 - a) a none
structure Prt where
 up : Int
 depth : Int
 «from» : Int
 body : Int
 to : Int
 type : Typ
 code : List UInt8
deriving DecidableEq
def sCt : List UInt8 := [99, 111, 110, 116, 101, 110, 116, 45, 116, 121, 112, 101]
def sCte : List UInt8 := sCt.take 8 ++ [116, 114, 97, 110, 115, 102, 101, 114, 45, 101, 110, 99, 111, 100, 105, 110, 103]
def sMessage : List UInt8 := [109, 101, 115, 115, 97, 103, 101]
def sRfc : List UInt8 := [114, 102, 99, 56, 50, 50]
def sMultipart : List UInt8 := [109, 117, 108, 116, 105, 112, 97, 114, 116]
def sDigest : List UInt8 := [100, 105, 103, 101, 115, 116]
def sBoundary : List UInt8 := [98, 111, 117, 110, 100, 97, 114, 121]
def sB64 : List UInt8 := [98, 97, 115, 101, 54, 52]
def sQp : List UInt8 := [113, 117, 111, 116, 101, 100, 45, 112, 114, 105, 110, 116, 97, 98, 108, 101]
def codeM (v : List UInt8) : List UInt8 :=
 match bareT (scanT v) with
 | [] => []
 | t :: _ => if t.1 = 1 then smallH t.2 else []
def readM (s : List UInt8) (up depth : Int) (a e : Nat) (digest : Bool) : Prt :=
 let h := parH ((s.take e).drop a)
 ⟨up, depth, a, a + h.2, e, (match getH h.1 sCt with | some v => (typeC v).1 | none => if digest = true then ⟨sMessage, sRfc, []⟩ else (typeC []).1), codeM ((getH h.1 sCte).getD [])⟩
def innerM (s : List UInt8) (p : Prt) : List (Nat × Nat) :=
 if 8 ≤ p.depth then []
 else if p.type.kind = sMultipart then
  let b := (paramC p.type.params sBoundary).getD []
  if b ≠ [] ∧ Lib.contains b [10] = false then bodiesM (s.take p.to.toNat) p.body.toNat b else []
 else if p.type.kind = sMessage ∧ p.type.sub = sRfc ∧ p.code ≠ sB64 ∧ p.code ≠ sQp then [(p.body.toNat, p.to.toNat)]
 else []
def digestM (p : Prt) : Bool := decide (p.type.kind = sMultipart ∧ p.type.sub = sDigest)
structure Row where
 l : List Prt
 found : Nat
def treeM (s : List UInt8) : Nat → Prt → Row → Row
 | 0, p, z => ⟨z.l ++ [p], z.found⟩
 | k + 1, p, z =>
  let l := innerM s p
  if 64 < z.found + l.length then ⟨z.l ++ [p], z.found⟩
  else l.foldl (fun y c => treeM s k (readM s z.l.length (p.depth + 1) c.1 c.2 (digestM p)) y) ⟨z.l ++ [p], z.found + l.length⟩
def parseM (s : List UInt8) : List Prt := (treeM s 9 (readM s (-1) 0 0 s.length false) ⟨[], 1⟩).l
theorem zly : ∀ (k : Nat) (s : List UInt8) (o : Nat), o ≤ (parF k s o).2 ∧ (parF k s o).2 ≤ o + s.length := by
 intro k
 induction k with
 | zero => intro s o; exact ⟨Nat.le_refl _, Nat.le_add_right _ _⟩
 | succ k ih =>
  intro s o
  unfold parF
  split
  ·exact ⟨Nat.le_refl _, Nat.le_add_right _ _⟩
  ·split
   ·have := zbw s; dsimp only; omega
   ·have h1 := ih (s.drop (lenH s)) (o + lenH s)
    have h2 := ziQ s
    rw [List.length_drop] at h1
    dsimp only
    omega
theorem zje (s : List UInt8) : (parH s).2 ≤ s.length := by have := (zly s.length s 0).2; unfold parH parG; omega
structure OkP (n : Nat) (p : Prt) : Prop where
 f0 : 0 ≤ p.from
 fb : p.from ≤ p.body
 bt : p.body ≤ p.to
 tn : p.to ≤ n
 d0 : 0 ≤ p.depth
 d8 : p.depth ≤ 8
theorem zbI (s : List UInt8) (up depth : Int) (a e : Nat) (g : Bool) (ha : a ≤ e) (he : e ≤ s.length) (h0 : 0 ≤ depth) (h8 : depth ≤ 8) : OkP s.length (readM s up depth a e g) := by
 have h := zje ((s.take e).drop a)
 rw [List.length_drop, List.length_take] at h
 refine ⟨?_, ?_, ?_, ?_, h0, h8⟩
 ·show (0 : Int) ≤ (a : Int); omega
 ·show (a : Int) ≤ (a : Int) + ((parH ((s.take e).drop a)).2 : Nat); omega
 ·show (a : Int) + ((parH ((s.take e).drop a)).2 : Nat) ≤ (e : Int); omega
 ·show (e : Int) ≤ (s.length : Int); omega
def Chain (t : Nat) : Nat → List (Nat × Nat) → Prop
 | _, [] => True
 | b, c :: r => b ≤ c.1 ∧ c.1 ≤ c.2 ∧ c.2 ≤ t ∧ Chain t (c.2 + 1) r
theorem Chain.low {t b b' : Nat} {l : List (Nat × Nat)} (h : Chain t b l) (hb : b' ≤ b) : Chain t b' l := by
 cases l with
 | nil => trivial
 | cons c r => exact ⟨Nat.le_trans hb h.1, h.2⟩
theorem ziL (s : List UInt8) (o a : Nat) (h : o ≤ a) : o ≤ cutM s o a ∧ cutM s o a ≤ a := by
 unfold cutM
 split
 ·split <;> omega
 ·omega
theorem zhJ (s b : List UInt8) : ∀ (k a : Nat) (o : Option Nat), a ≤ s.length → (∀ x, o = some x → x ≤ a) → Chain s.length (o.getD a) (bodF s b k a o) := by
 intro k
 induction k with
 | zero => intro a o ha ho; exact trivial
 | succ k ih =>
  intro a o ha ho
  unfold bodF
  split
  ·rename_i hlt
   have hne : s.drop a ≠ [] := fun h => by have h := congrArg List.length h; rw [List.length_drop] at h; simp at h; omega
   have h1 := zbw (s.drop a)
   have h2 := zbu hne
   rw [List.length_drop] at h1
   dsimp only
   split
   ·have hr : Chain s.length (a + endH (s.drop a)) (bodF s b k (a + endH (s.drop a)) (some (a + endH (s.drop a)))) := ih _ (some _) (by omega) (fun x hx => by injection hx with hx; omega)
    split
    ·cases o with
     | none => exact trivial
     | some x => have := ziL s x a (ho x rfl); exact ⟨Nat.le_refl _, this.1, by omega, trivial⟩
    ·cases o with
     | none => exact hr.low (by show a ≤ _; omega)
     | some x => have := ziL s x a (ho x rfl); exact ⟨Nat.le_refl _, this.1, by omega, hr.low (by dsimp only; omega)⟩
   ·have hr := ih (a + endH (s.drop a)) o (by omega) (fun x hx => by have := ho x hx; omega)
    cases o with
    | none => exact hr.low (by show a ≤ a + endH (s.drop a); omega)
    | some x => exact hr
  ·cases o with
   | none => exact trivial
   | some x => have := ho x rfl; exact ⟨Nat.le_refl _, by dsimp only; omega, Nat.le_refl _, trivial⟩
theorem zbB {s : List UInt8} {p : Prt} (ok : OkP s.length p) (hne : innerM s p ≠ []) : p.depth < 8 ∧ Chain p.to.toNat p.body.toNat (innerM s p) := by
 have hb := ok.bt; have hf := ok.fb; have h0 := ok.f0; have htn := ok.tn
 unfold innerM at hne ⊢
 by_cases h8 : 8 ≤ p.depth
 ·rw [if_pos h8] at hne; exact (hne rfl).elim
 rw [if_neg h8] at hne ⊢
 refine ⟨by omega, ?_⟩
 by_cases hm : p.type.kind = sMultipart
 ·rw [if_pos hm]
  dsimp only
  split
  ·have hl : (s.take p.to.toNat).length = p.to.toNat := by rw [List.length_take]; omega
   have h := zhJ (s.take p.to.toNat) ((paramC p.type.params sBoundary).getD []) ((s.take p.to.toNat).length + 1 - p.body.toNat) p.body.toNat none (by omega) (fun x hx => by cases hx)
   rw [hl] at h
   unfold bodiesM
   rw [hl]
   exact h
  ·trivial
 ·rw [if_neg hm]
  split
  ·exact ⟨Nat.le_refl _, by dsimp only; omega, Nat.le_refl _, trivial⟩
  ·trivial
def lastA (l : List Prt) (j : Nat) : Int := l.foldl (fun a p => if p.up = (j : Int) then p.to + 1 else a) ((l[j]?.map (·.body)).getD 0)
inductive Anc (l : List Prt) (j : Nat) : Nat → Prop
 | here : Anc l j j
 | up {k : Nat} {p : Prt} : l[k]? = some p → 0 ≤ p.up → Anc l j p.up.toNat → Anc l j k
theorem Anc.app {l : List Prt} {j k : Nat} (h : Anc l j k) (r : List Prt) : Anc (l ++ r) j k := by
 induction h with
 | here => exact .here
 | up h1 h2 _ ih => exact .up (by rw [List.getElem?_append_left (List.getElem?_eq_some_iff.1 h1).1]; exact h1) h2 ih
theorem Anc.trans {l : List Prt} {i j k : Nat} (h : Anc l j k) (h2 : Anc l i j) : Anc l i k := by
 induction h with
 | here => exact h2
 | up h1 h3 _ ih => exact .up h1 h3 ih
structure Step (n : Nat) (l : List Prt) (p : Prt) : Prop where
 ok : OkP n p
 up0 : 0 ≤ p.up
 par : ∃ q, l[p.up.toNat]? = some q ∧ p.to ≤ q.to ∧ p.depth = q.depth + 1
 last : lastA l p.up.toNat ≤ p.from
 anc : Anc l p.up.toNat (l.length - 1)
inductive Good (n : Nat) : List Prt → Prop
 | root {p : Prt} : OkP n p → p.up = -1 → p.depth = 0 → p.from = 0 → p.to = n → Good n [p]
 | snoc {l : List Prt} {p : Prt} : Good n l → Step n l p → Good n (l ++ [p])
theorem Good.up {n : Nat} {l : List Prt} (h : Good n l) : ∀ (i : Nat) (q : Prt), l[i]? = some q → q.up < (i : Int) := by
 induction h with
 | root h1 h2 h3 h4 h5 =>
  intro i q hq
  cases i with
  | zero => simp at hq; subst hq; omega
  | succ i => simp at hq
 | snoc h1 h2 ih =>
  rename_i l p
  intro i q hq
  rcases Nat.lt_or_ge i l.length with h | h
  ·rw [List.getElem?_append_left h] at hq; exact ih i q hq
  ·have hi : i = l.length := by
    have := (List.getElem?_eq_some_iff.1 hq).1
    rw [List.length_append, List.length_singleton] at this; omega
   subst hi
   rw [List.getElem?_append_right (Nat.le_refl _), Nat.sub_self] at hq
   have hq : p = q := by simpa using hq
   subst hq
   obtain ⟨x, hx, _⟩ := h2.par
   have := (List.getElem?_eq_some_iff.1 hx).1
   have := h2.up0
   omega
theorem zdA (j : Nat) : ∀ (m : List Prt) (a : Int), (∀ x ∈ m, x.up ≠ (j : Int)) → m.foldl (fun a p => if p.up = (j : Int) then p.to + 1 else a) a = a
 | [], a, h => rfl
 | x :: m, a, h => by
  rw [List.foldl_cons, if_neg (h x List.mem_cons_self)]
  exact zdA j m a fun y hy => h y (List.mem_cons_of_mem _ hy)
theorem zec {l m : List Prt} {p : Prt} {j : Nat} (hj : j < l.length) (hp : p.up = (j : Int)) (hm : ∀ x ∈ m, x.up ≠ (j : Int)) : lastA (l ++ [p] ++ m) j = p.to + 1 := by
 unfold lastA
 rw [List.foldl_append, List.foldl_append, List.foldl_cons, List.foldl_nil, if_pos hp, zdA j m _ hm]
theorem zfO {n : Nat} {l : List Prt} {p : Prt} (h : Good n (l ++ [p])) : lastA (l ++ [p]) l.length = p.body := by
 unfold lastA
 rw [zdA _ _ _ fun x hx => ?_]
 ·rw [List.getElem?_append_right (Nat.le_refl _), Nat.sub_self]; rfl
 ·obtain ⟨i, hi, rfl⟩ := List.getElem_of_mem hx
  have h1 := h.up i _ (List.getElem?_eq_getElem hi)
  rw [List.length_append, List.length_singleton] at hi
  omega
structure Opn (n : Nat) (z r : Row) (p : Prt) : Prop where
 more : ∃ m, r.l = z.l ++ [p] ++ m ∧ (∀ x ∈ m, (z.l.length : Int) ≤ x.up) ∧ (m.length : Int) + z.found ≤ r.found
 good : Good n r.l
 anc : Anc r.l z.l.length (r.l.length - 1)
 top : r.found ≤ 64
theorem zjH (s : List UInt8) (k : Nat) (ih : ∀ (p : Prt) (z : Row), Good s.length (z.l ++ [p]) → z.found ≤ 64 → Opn s.length z (treeM s k p z) p) (at' : Nat) (p : Prt) (g : Bool) (hd : p.depth < 8) (hd0 : 0 ≤ p.depth) (htn : p.to ≤ s.length) (ht0 : 0 ≤ p.to) :
  ∀ (cs : List (Nat × Nat)) (b : Nat) (y : Row) (m0 : List Prt) (l0 : List Prt), Chain p.to.toNat b cs → y.l = l0 ++ [p] ++ m0 → l0.length = at' → (∀ x ∈ m0, (at' : Int) ≤ x.up) → Good s.length y.l → Anc y.l at' (y.l.length - 1) → lastA y.l at' ≤ b → y.found ≤ 64 →
   ∃ m, (cs.foldl (fun y c => treeM s k (readM s at' (p.depth + 1) c.1 c.2 g) y) y).l = l0 ++ [p] ++ m ∧ (∀ x ∈ m, (at' : Int) ≤ x.up) ∧ Good s.length (cs.foldl (fun y c => treeM s k (readM s at' (p.depth + 1) c.1 c.2 g) y) y).l ∧
    Anc (cs.foldl (fun y c => treeM s k (readM s at' (p.depth + 1) c.1 c.2 g) y) y).l at' ((cs.foldl (fun y c => treeM s k (readM s at' (p.depth + 1) c.1 c.2 g) y) y).l.length - 1) ∧ (cs.foldl (fun y c => treeM s k (readM s at' (p.depth + 1) c.1 c.2 g) y) y).found ≤ 64 ∧
    (m.length : Int) + y.found ≤ m0.length + cs.length + (cs.foldl (fun y c => treeM s k (readM s at' (p.depth + 1) c.1 c.2 g) y) y).found := by
 intro cs
 induction cs with
 | nil => intro b y m0 l0 hc hy hl hm hg ha hla hf; exact ⟨m0, hy, hm, hg, ha, hf, by rw [List.length_nil]; simp only [List.foldl_nil]; omega⟩
 | cons c cs ihc =>
  intro b y m0 l0 hc hy hl hm hg ha hla hf
  obtain ⟨hc1, hc2, hc3, hc4⟩ := hc
  rw [List.foldl_cons]
  obtain ⟨q, hq⟩ : ∃ q, q = readM s at' (p.depth + 1) c.1 c.2 g := ⟨_, rfl⟩
  have hqok : OkP s.length q := by rw [hq]; exact zbI s _ _ _ _ g hc2 (by omega) (by omega) (by omega)
  have hqu : q.up = (at' : Int) := by rw [hq]; rfl
  have hqf : q.from = (c.1 : Int) := by rw [hq]; rfl
  have hqt : q.to = (c.2 : Int) := by rw [hq]; rfl
  have hqd : q.depth = p.depth + 1 := by rw [hq]; rfl
  have hlt : at' < y.l.length := by rw [hy, List.length_append, List.length_append, List.length_singleton]; omega
  have hpar : y.l[at']? = some p := by rw [hy, List.append_assoc, List.getElem?_append_right (by omega), hl, Nat.sub_self]; rfl
  have hstep : Step s.length y.l q := ⟨hqok, by omega, ⟨p, by rw [hqu, Int.toNat_natCast]; exact hpar, by omega, hqd⟩, by rw [hqu, Int.toNat_natCast, hqf]; omega, by rw [hqu, Int.toNat_natCast]; exact ha⟩
  rw [← hq]
  have ho := ih q y (.snoc hg hstep) hf
  obtain ⟨m, h1, h2, h3⟩ := ho.more
  have hg' := ho.good
  have ha' := ho.anc
  have hf' := ho.top
  generalize treeM s k q y = r at *
  have hupm : ∀ x ∈ m, x.up ≠ (at' : Int) := fun x hx => by have := h2 x hx; omega
  have hq1 : r.l[y.l.length]? = some q := by rw [h1, List.append_assoc, List.getElem?_append_right (Nat.le_refl _), Nat.sub_self]; rfl
  obtain ⟨m', g1, g2, g3, g4, g5, g6⟩ := ihc (c.2 + 1) r (m0 ++ [q] ++ m) l0 hc4 (by rw [h1, hy]; simp) hl
   (fun x hx => by
    rcases List.mem_append.1 hx with hx | hx
    ·rcases List.mem_append.1 hx with hx | hx
     ·exact hm x hx
     ·have : x = q := by simpa using hx
      rw [this]; omega
    ·have := h2 x hx; omega)
   hg' (ha'.trans (.up hq1 (by omega) (by rw [hqu, Int.toNat_natCast]; exact .here)))
   (by rw [h1, zec hlt hqu hupm, hqt]; omega) hf'
  refine ⟨m', g1, g2, g3, g4, g5, ?_⟩
  rw [List.length_append, List.length_append, List.length_singleton] at g6
  rw [List.length_cons]
  omega
theorem zjP (s : List UInt8) : ∀ (k : Nat) (p : Prt) (z : Row), Good s.length (z.l ++ [p]) → z.found ≤ 64 → Opn s.length z (treeM s k p z) p := by
 intro k
 induction k with
 | zero =>
  intro p z hg hf
  exact ⟨⟨[], by simp [treeM], fun x hx => (by cases hx), by simp [treeM]⟩, hg, by
   show Anc (z.l ++ [p]) _ ((z.l ++ [p]).length - 1)
   rw [List.length_append, List.length_singleton, Nat.add_sub_cancel]; exact .here, hf⟩
 | succ k ih =>
  intro p z hg hf
  have hanc : Anc (z.l ++ [p]) z.l.length ((z.l ++ [p]).length - 1) := by rw [List.length_append, List.length_singleton, Nat.add_sub_cancel]; exact .here
  have hok : OkP s.length p := by
   generalize hL : z.l ++ [p] = L at hg
   cases hg with
   | root h1 h2 h3 h4 h5 =>
    rename_i q
    have : p = q := by
     have h := (List.append_inj' (s₁ := z.l) (t₁ := [p]) (s₂ := []) (t₂ := [q]) hL rfl).2
     simpa using h
    rw [this]; exact h1
   | snoc h1 h2 =>
    rename_i l q
    have : p = q := by
     have h := (List.append_inj' hL rfl).2
     simpa using h
    rw [this]; exact h2.ok
  unfold treeM
  dsimp only
  split
  ·exact ⟨⟨[], by simp, fun x hx => (by cases hx), by simp⟩, hg, hanc, hf⟩
  ·rename_i h64
   by_cases hne : innerM s p = []
   ·rw [hne]
    exact ⟨⟨[], by simp, fun x hx => (by cases hx), by simp⟩, hg, hanc, hf⟩
   ·obtain ⟨hd, hc⟩ := zbB hok hne
    have hb := hok.bt; have hfb := hok.fb; have hf0 := hok.f0
    obtain ⟨m, g1, g2, g3, g4, g5, g6⟩ := zjH s k ih z.l.length p (digestM p) hd hok.d0 hok.tn (by omega) (innerM s p) p.body.toNat ⟨z.l ++ [p], z.found + (innerM s p).length⟩ [] z.l hc (by simp) rfl (fun x hx => by cases hx) hg hanc
     (by rw [zfO hg]; omega) (by dsimp only; omega)
    refine ⟨⟨m, g1, g2, ?_⟩, g3, g4, g5⟩
    dsimp only at g6
    rw [List.length_nil] at g6
    omega
theorem zhN (s : List UInt8) : Good s.length (parseM s) ∧ (parseM s).length ≤ 64 := by
 have h0 : Good s.length ([] ++ [readM s (-1) 0 0 s.length false]) := .root (zbI s _ _ _ _ _ (Nat.zero_le _) (Nat.le_refl _) (by omega) (by omega)) rfl rfl rfl rfl
 have h := zjP s 9 _ ⟨[], 1⟩ h0 (by decide)
 obtain ⟨m, h1, h2, h3⟩ := h.more
 refine ⟨h.good, ?_⟩
 have ht := h.top
 show (treeM s 9 _ _).l.length ≤ 64
 rw [h1]
 simp only [List.nil_append, List.length_append, List.length_singleton]
 dsimp only at h3
 omega
theorem Good.root_at {n : Nat} {l : List Prt} (h : Good n l) : ∃ p, l[0]? = some p ∧ OkP n p ∧ p.up = -1 ∧ p.depth = 0 ∧ p.from = 0 ∧ p.to = n := by
 induction h with
 | root h1 h2 h3 h4 h5 => exact ⟨_, rfl, h1, h2, h3, h4, h5⟩
 | snoc h1 h2 ih =>
  obtain ⟨p, hp, h⟩ := ih
  exact ⟨p, by rw [List.getElem?_append_left (List.getElem?_eq_some_iff.1 hp).1]; exact hp, h⟩
theorem Good.step_at {n : Nat} {l : List Prt} (h : Good n l) : ∀ (i : Nat) (p : Prt), 0 < i → l[i]? = some p → Step n (l.take i) p := by
 induction h with
 | root h1 h2 h3 h4 h5 => intro i q hi hq; cases i with | zero => omega | succ i => simp at hq
 | snoc h1 h2 ih =>
  rename_i l p
  intro i q hi hq
  rcases Nat.lt_or_ge i l.length with h | h
  ·rw [List.getElem?_append_left h] at hq
   rw [List.take_append_of_le_length (by omega)]
   exact ih i q hi hq
  ·have hi : i = l.length := by
    have := (List.getElem?_eq_some_iff.1 hq).1
    rw [List.length_append, List.length_singleton] at this; omega
   subst hi
   rw [List.getElem?_append_right (Nat.le_refl _), Nat.sub_self] at hq
   have hq : p = q := by simpa using hq
   subst hq
   rw [List.take_left']
   ·exact h2
   ·rfl
def lnF (s : List UInt8) : Nat → Nat → List (Nat × Nat)
 | 0, _ => []
 | k + 1, a => if a < s.length then (a, a + endH (s.drop a)) :: lnF s k (a + endH (s.drop a)) else []
def linesM (s : List UInt8) (a : Nat) : List (Nat × Nat) := lnF s (s.length - a) a
theorem dropNe {s : List UInt8} {a : Nat} (h : a < s.length) : s.drop a ≠ [] := fun e => by have h := congrArg List.length e; rw [List.length_drop] at h; simp at h; omega
theorem zct {s : List UInt8} {a : Nat} (h : a < s.length) : 0 < endH (s.drop a) ∧ a + endH (s.drop a) ≤ s.length := by
 have h1 := zbw (s.drop a)
 have h2 := zbu (dropNe h)
 rw [List.length_drop] at h1
 omega
theorem zle (s : List UInt8) : ∀ (k a : Nat), s.length - a ≤ k → lnF s (k + 1) a = lnF s k a := by
 intro k
 induction k with
 | zero => intro a h; show (if a < s.length then _ else _) = _; rw [if_neg (by omega)]; rfl
 | succ k ih =>
  intro a h
  show (if a < s.length then _ :: lnF s (k + 1) _ else _) = if a < s.length then _ :: lnF s k _ else _
  by_cases hlt : a < s.length
  ·have := zct hlt
   rw [if_pos hlt, if_pos hlt, ih _ (by omega)]
  ·rw [if_neg hlt, if_neg hlt]
theorem zgS (s : List UInt8) (a : Nat) : ∀ j, lnF s (s.length - a + j) a = linesM s a
 | 0 => rfl
 | j + 1 => by rw [← Nat.add_assoc, zle _ _ _ (by omega), zgS s a j]
theorem zbx {s : List UInt8} {a : Nat} (h : a < s.length) : linesM s a = (a, a + endH (s.drop a)) :: linesM s (a + endH (s.drop a)) := by
 have he := zct h
 unfold linesM
 obtain ⟨j, hj⟩ : ∃ j, s.length - a = (s.length - (a + endH (s.drop a)) + j) + 1 := ⟨endH (s.drop a) - 1, by omega⟩
 rw [hj]
 show (if a < s.length then _ :: lnF s (s.length - (a + endH (s.drop a)) + j) _ else _) = _
 rw [if_pos h, zgS]
 rfl
theorem zaW {s : List UInt8} {a : Nat} (h : ¬ a < s.length) : linesM s a = [] := by
 unfold linesM
 rw [show s.length - a = 0 by omega]; rfl
def bodL (s b : List UInt8) : List (Nat × Nat) → Option Nat → List (Nat × Nat)
 | [], o => (match o with | none => [] | some o => [(o, s.length)])
 | x :: r, o => if (boundM ((s.take x.2).drop x.1) b).1 = true then (if (boundM ((s.take x.2).drop x.1) b).2 = true then addM s o x.1 else addM s o x.1 ++ bodL s b r (some x.2)) else bodL s b r o
theorem zhu (s b : List UInt8) : ∀ (k a : Nat) (o : Option Nat), a ≤ s.length → s.length + 1 - a ≤ k → bodF s b k a o = bodL s b (linesM s a) o := by
 intro k
 induction k with
 | zero => intro a o h1 h2; omega
 | succ k ih =>
  intro a o h1 h2
  by_cases hlt : a < s.length
  ·have he := zct hlt
   rw [zbx hlt]
   conv => lhs; unfold bodF
   rw [if_pos hlt]
   show (if (boundM ((s.drop a).take (endH (s.drop a))) b).1 = true then _ else _) = if (boundM ((s.take (a + endH (s.drop a))).drop a) b).1 = true then _ else _
   rw [show (s.take (a + endH (s.drop a))).drop a = (s.drop a).take (endH (s.drop a)) by rw [List.drop_take]; congr 1; omega]
   rw [ih _ (some _) (by omega) (by omega), ih _ o (by omega) (by omega)]
  ·rw [zaW hlt]
   conv => lhs; unfold bodF
   rw [if_neg hlt]
   cases o <;> rfl
theorem zfg (s b : List UInt8) (a : Nat) (h : a ≤ s.length) : bodiesM s a b = bodL s b (linesM s a) none := zhu s b _ a none h (Nat.le_refl _)
theorem zja {s : List UInt8} : ∀ (n a : Nat), s.length - a ≤ n → ∀ x ∈ linesM s a, a ≤ x.1 ∧ x.1 < x.2 ∧ x.2 ≤ s.length := by
 intro n
 induction n with
 | zero => intro a h x hx; rw [zaW (by omega)] at hx; cases hx
 | succ n ih =>
  intro a h x hx
  by_cases hlt : a < s.length
  ·have he := zct hlt
   rw [zbx hlt] at hx
   rcases List.mem_cons.1 hx with rfl | hx
   ·dsimp only; omega
   ·have := ih _ (by omega) x hx; omega
  ·rw [zaW hlt] at hx; cases hx
theorem zel {s : List UInt8} : ∀ (n a : Nat), s.length - a ≤ n → (linesM s a).length ≤ s.length - a := by
 intro n
 induction n with
 | zero => intro a h; rw [zaW (by omega)]; exact Nat.zero_le _
 | succ n ih =>
  intro a h
  by_cases hlt : a < s.length
  ·have he := zct hlt
   rw [zbx hlt, List.length_cons]
   have := ih (a + endH (s.drop a)) (by omega)
   omega
  ·rw [zaW hlt]; exact Nat.zero_le _
end Go.Me
