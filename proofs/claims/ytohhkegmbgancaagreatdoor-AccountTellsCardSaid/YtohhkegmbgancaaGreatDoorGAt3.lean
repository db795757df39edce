/- Helper text of this claim: lemmas and contracts that the proved statement rests on; no conditions of its own. -/
import Derived.Test.YtohhkegmbgancaaGreatDoorGBq1
namespace Go.Proofs.YtohhkegmbgancaaGreatDoor
set_option maxHeartbeats 8000000
open Go.Shelf Go.RowKit Go.Pw Go.Vc Go.Cs Go.Lib
set_option linter.unusedVariables false
set_option maxRecDepth 100000
section
variable {w : World}
theorem zgv {B s n : Nat} {e : TypeId} {a : Option Addr} {cap : Nat} {xs : List Value} (h : w.ownsRow B e s (.slice a n cap) n xs) : n ≤ cap ∧ cap ≤ maxLen := by
 rcases h.2 with ⟨h1, h2⟩ | ⟨g, cap', cur, h1, hb, hgg, h3, h4, _⟩
 ·injection h1 with _ h5 h6
  subst h6; subst h2
  exact ⟨Nat.le_refl _, Nat.zero_le _⟩
 ·injection h1 with _ _ h6
  subst h6
  exact ⟨h3, h4⟩
theorem zgt {v : Value} (l : List Int) (hv : RowI w v l) (hl : l.length ≤ 17592186043904) : Calls Tryz.prog 165 #[v] w fun e w' => ∃ v', e = .returned v' ∧ OwnI w' w.heap.size v' (sortI l) ∧ Kp w w' n_ := by
 obtain ⟨a, cap, rfl, hr⟩ := hv
 refine zaa (args := [.slice a l.length cap]) Tryz.func165 rfl NL ?_; refine GW ?_
 refine Loop.intro (ι := Nat × Value) (fun p => [(0, .slice a l.length cap), (3, p.2), (4, .int .i64 (p.1 : Nat))])
  (fun p wr => Kp w wr n_ ∧ p.1 ≤ l.length ∧ OwnI wr w.heap.size p.2 (sortI (l.take p.1)) ∧ (sortI (l.take p.1) = [] → p.2 = .slice none 0 0)) (fun p => l.length - p.1) (0, .slice none 0 0) ⟨rfl, rfl, rfl, trivial⟩ ⟨Kp.refl _ _, Nat.zero_le _, World.ownsRow_nil _ _ _ _, fun _ => rfl⟩ ?_
 rintro ⟨i, v⟩ gg wr ⟨hK, hi, ho, hnil⟩
 dsimp only at hi ho hnil ⊢
 have hlen := zcc (lt := ltI) (l.take i)
 have hstep : i < l.length → sortI (l.take (i + 1)) = insD ltI (l[i]?.getD 0) (sortI (l.take i)) := fun h => by
  rw [List.take_succ_eq_append_getElem h, List.getElem?_eq_getElem h]
  exact zfP _ _
 have hall : l.length ≤ i → sortI (l.take i) = sortI l := fun h => by rw [List.take_of_length_le h]
 rw [List.length_take] at hlen
 have hlen : (sortI (l.take i)).length ≤ i := by unfold sortI; omega
 generalize sortI (l.take i) = L at *
 obtain ⟨va, vc, rfl⟩ := zab ho
 obtain ⟨hc1, hc2⟩ := zgv ho
 refine GW ?_
 by_cases hlt : i < l.length
 rotate_left
 ·refine KGO ?_
  exact ⟨_, rfl, hall (by omega) ▸ ho, hK⟩
 have hstep := hstep hlt
 rw [List.getElem?_eq_getElem hlt, Option.getD_some] at hstep
 obtain ⟨gl, ol, rfl, hgl, hatl⟩ := hr (by omega)
 have hcz := zbS (zac hatl hK) hlt
 generalize l[i] = z at *
 refine KGO ?_
 have kr := Kp.refl wr n_
 refine Loop.intro (ι := Nat) (fun k => [(0, .slice (some ⟨gl, ol, none⟩) l.length cap), (3, .slice va L.length vc), (4, .int .i64 (i : Nat)), (5, .int .i64 (k : Nat))])
  (fun k w2 => Kp wr w2 n_ ∧ k ≤ L.length ∧ ∀ x ∈ L.take k, ltI x z = true) (fun k => L.length - k) 0 ⟨rfl, rfl, rfl, rfl, trivial⟩ ⟨kr, Nat.zero_le _, fun x hx => by simp at hx⟩ ?_
 rintro k g2 w2 ⟨k2, hk, hpre⟩
 refine GW ?_
 have hcz2 := zak hcz k2
 have kr2 := Kp.refl w2 n_
 have kd2 : Kp w2 w2.drew n_ := kr2.drew
 have hfin : (∀ x, L[k]? = some x → ltI x z = false) → insD ltI z L = if L[k]? = some z then L else L.take k ++ z :: L.drop k := fun h => by
  have := zez stoI z L
  rw [zaJ (fun y => ltI y z) L k hpre hk h] at this
  exact this
 by_cases hkl : k < L.length
 ·obtain ⟨go, rfl, hBg, hgo, hato⟩ := zcx ho (by omega)
  have hco := zbS (zac hato k2) hkl
  by_cases hlz : L[k] < z
  ·have hn : ∀ x ∈ L.take (k + 1), ltI x z = true := fun x hx => by
    rw [List.take_succ_eq_append_getElem hkl, List.mem_append, List.mem_singleton] at hx
    rcases hx with hx | rfl
    ·exact hpre x hx
    ·exact decide_eq_true hlz
   clear hfin
   refine KGO ?_
   exact ⟨k + 1, ⟨rfl, rfl, rfl, v_int (by simp), trivial⟩, ⟨by first | exact k2 | exact k2.drew, by omega, hn⟩, by dsimp only; omega⟩
  have hfin := hfin (fun x hx => by rw [List.getElem?_eq_getElem hkl] at hx; injection hx with hx; subst hx; exact decide_eq_false hlz)
  rw [List.getElem?_eq_getElem hkl] at hfin
  by_cases hez : L[k] = z
  ·rw [if_pos (by rw [hez])] at hfin
   refine KGO ?_
   exact ⟨(i + 1, _), ⟨rfl, rfl, v_int (by simp), trivial⟩, ⟨hK.trans0 k2.drew.drew, by dsimp only; omega, by dsimp only; rw [hstep, hfin]; exact zaf ho k2.drew.drew, fun h => by dsimp only at h; rw [hstep, hfin] at h; exact hnil h⟩, by dsimp only; omega⟩
  rw [if_neg (fun e => hez (by injection e))] at hfin
  clear hnil
  refine KGO ?_
  refine RunV.of (build0I _) ?_
  have k3 : Kp w2 (w2.drew.drew.alloc (.cells #[] 3)) n_ := (kd2.drew).alloc _
  have o3 := zbc 3 inC 1 (by decide) w2.drew.drew
  have hB3 := k3.size
  generalize w2.drew.drew.alloc (.cells #[] 3) = w3 at *
  have zz : w2.drew.drew.heap.size = w2.heap.size := rfl
  rw [zz] at o3 ⊢
  have hato3 := zac hato (k2.trans0 k3)
  refine KGO ?_
  rw [if_neg (by omega : ¬ 0 = vc)]
  refine tyI.app (L.take k) o3 hB3 (by rw [List.length_take]; omega) (fun _ => ⟨go, _, rfl, by simpa using zbw lenI hato3 k⟩) (by rw [List.length_take]; simp; omega) (by rw [List.length_take]; simp; omega) fun v4 w4 o4 k4 => ?_
  have K4 : Kp w2 w4 n_ := zaq o3 k4 w2 k3 (Nat.le_refl _)
  rw [List.nil_append] at o4
  obtain ⟨a4, c4, rfl⟩ := zab o4
  have hcz4 := zak hcz2 K4
  have hlt4 : (L.take k).length = k := by rw [List.length_take]; omega
  have kd4 : Kp w4 w4.drew n_ := (Kp.refl _ _).drew
  refine KGO ?_
  refine RunV.of (bsR1I _ _) ?_
  have k5 : Kp w4 (w4.alloc (.cells (List.toArray (inC z)) 3)) n_ := (Kp.refl _ _).alloc _
  have h5 := zao w4 3 (inC z)
  have o5 := zaf o4 k5
  generalize w4.alloc (.cells (List.toArray (inC z)) 3) = w5 at *
  generalize w4.heap.size = g5 at *
  refine KGO ?_
  refine tyI.app1 z o5 (K4.trans0 k5).size h5 (by omega) (by omega) fun v6 w6 o6 k6 => ?_
  have K6 : Kp w2 w6 n_ := zaq o5 k6 w2 (K4.trans0 k5) (Nat.le_refl _)
  obtain ⟨a6, c6, rfl⟩ := zab o6
  have hato6 := zac hato (k2.trans0 K6)
  refine KGO ?_
  refine tyI.app (L.drop k) o6 K6.size (by rw [List.length_drop]) (fun hpos => ?_) (by rw [List.length_append, List.length_drop]; simp; omega) (by rw [List.length_append, List.length_drop]; simp; omega) fun v7 w7 o7 k7 => ?_
  ·rw [if_neg (by omega : ¬ k = vc)]
   exact ⟨go, _, rfl, by simpa using zbq lenI hato6 k⟩
  have K7 : Kp w2 w7 n_ := zaq o6 k7 w2 K6 (Nat.le_refl _)
  rw [List.append_assoc, List.singleton_append, ← hfin, ← hstep] at o7
  obtain ⟨a7, c7, rfl⟩ := zab o7
  have o7' := zaj o7 (show w.heap.size ≤ w2.heap.size from (hK.trans0 k2).size)
  refine KGO ?_
  exact ⟨(i + 1, _), ⟨rfl, rfl, v_int (by simp), trivial⟩, ⟨(hK.trans0 k2).trans0 K7, by dsimp only; omega, o7', fun h => by dsimp only at h; rw [hstep, hfin] at h; simp at h⟩, by dsimp only; omega⟩
 ·have hkL : k = L.length := by omega
  have hfin := hfin (fun x hx => by rw [List.getElem?_eq_none (by omega)] at hx; cases hx)
  rw [List.getElem?_eq_none (by omega), if_neg (by simp)] at hfin
  by_cases hL0 : L.length = 0
  ·have hLn := List.eq_nil_of_length_eq_zero hL0
   have hva := hnil hLn
   subst hLn
   injection hva with e1 e2 e3
   subst e1; subst e3
   have hk0 : k = 0 := hkL
   subst hk0
   clear hnil hkl
   refine KGO ?_
   refine RunV.of (build0I _) ?_
   have k3 : Kp w2 (w2.drew.drew.alloc (.cells #[] 3)) n_ := kd2.drew.alloc _
   have o3 := zbc 3 inC 1 (by decide) w2.drew.drew
   have hB3 := k3.size
   generalize w2.drew.drew.alloc (.cells #[] 3) = w3 at *
   have zz : w2.drew.drew.heap.size = w2.heap.size := rfl
   rw [zz] at o3 ⊢
   refine KGO ?_
   refine zdF tyI rfl ?_
   refine KGO ?_
   refine tyI.app [] o3 hB3 rfl (fun h => absurd h (Nat.lt_irrefl 0)) (by simp) (by simp) fun v4 w4 o4 k4 => ?_
   have K4 : Kp w2 w4 n_ := zaq o3 k4 w2 k3 (Nat.le_refl _)
   rw [List.nil_append] at o4
   obtain ⟨a4, c4, rfl⟩ := zab o4
   have hcz4 := zak hcz2 K4
   have kd4 : Kp w4 w4.drew n_ := (Kp.refl _ _).drew
   refine KGO ?_
   refine RunV.of (bsR1I _ _) ?_
   have k5 : Kp w4 (w4.alloc (.cells (List.toArray (inC z)) 3)) n_ := (Kp.refl _ _).alloc _
   have h5 := zao w4 3 (inC z)
   have o5 := zaf o4 k5
   generalize w4.alloc (.cells (List.toArray (inC z)) 3) = w5 at *
   generalize w4.heap.size = g5 at *
   refine KGO ?_
   refine tyI.app1 z o5 (K4.trans0 k5).size h5 (by simp) (by simp) fun v6 w6 o6 k6 => ?_
   have K6 : Kp w2 w6 n_ := zaq o5 k6 w2 (K4.trans0 k5) (Nat.le_refl _)
   obtain ⟨a6, c6, rfl⟩ := zab o6
   refine KGO ?_
   refine zep tyI rfl ?_
   refine KGO ?_
   refine tyI.app [] o6 K6.size rfl (fun h => absurd h (Nat.lt_irrefl 0)) (by simp) (by simp) fun v7 w7 o7 k7 => ?_
   have K7 : Kp w2 w7 n_ := zaq o6 k7 w2 K6 (Nat.le_refl _)
   have hf2 : sortI (l.take (i + 1)) = [] ++ [z] ++ [] := by rw [hstep, hfin]; rfl
   rw [← hf2] at o7
   obtain ⟨a7, c7, rfl⟩ := zab o7
   have o7' := zaj o7 (show w.heap.size ≤ w2.heap.size from (hK.trans0 k2).size)
   refine KGO ?_
   exact ⟨(i + 1, _), ⟨rfl, rfl, v_int (by simp), trivial⟩, ⟨(hK.trans0 k2).trans0 K7, by dsimp only; omega, o7', fun h => by dsimp only at h; rw [hf2] at h; simp at h⟩, by dsimp only; omega⟩
  ·obtain ⟨go, rfl, hBg, hgo, hato⟩ := zcx ho (by omega)
   clear hnil
   refine KGO ?_
   refine RunV.of (build0I _) ?_
   have k3 : Kp w2 (w2.drew.drew.alloc (.cells #[] 3)) n_ := (kd2.drew).alloc _
   have o3 := zbc 3 inC 1 (by decide) w2.drew.drew
   have hB3 := k3.size
   generalize w2.drew.drew.alloc (.cells #[] 3) = w3 at *
   have zz : w2.drew.drew.heap.size = w2.heap.size := rfl
   rw [zz] at o3 ⊢
   have hato3 := zac hato (k2.trans0 k3)
   refine KGO ?_
   rw [if_neg (by omega : ¬ 0 = vc)]
   refine tyI.app (L.take k) o3 hB3 (by rw [List.length_take]; omega) (fun _ => ⟨go, _, rfl, by simpa using zbw lenI hato3 k⟩) (by rw [List.length_take]; simp; omega) (by rw [List.length_take]; simp; omega) fun v4 w4 o4 k4 => ?_
   have K4 : Kp w2 w4 n_ := zaq o3 k4 w2 k3 (Nat.le_refl _)
   rw [List.nil_append] at o4
   obtain ⟨a4, c4, rfl⟩ := zab o4
   have hcz4 := zak hcz2 K4
   have hlt4 : (L.take k).length = k := by rw [List.length_take]; omega
   have kd4 : Kp w4 w4.drew n_ := (Kp.refl _ _).drew
   refine KGO ?_
   refine RunV.of (bsR1I _ _) ?_
   have k5 : Kp w4 (w4.alloc (.cells (List.toArray (inC z)) 3)) n_ := (Kp.refl _ _).alloc _
   have h5 := zao w4 3 (inC z)
   have o5 := zaf o4 k5
   generalize w4.alloc (.cells (List.toArray (inC z)) 3) = w5 at *
   generalize w4.heap.size = g5 at *
   refine KGO ?_
   refine tyI.app1 z o5 (K4.trans0 k5).size h5 (by omega) (by omega) fun v6 w6 o6 k6 => ?_
   have K6 : Kp w2 w6 n_ := zaq o5 k6 w2 (K4.trans0 k5) (Nat.le_refl _)
   obtain ⟨a6, c6, rfl⟩ := zab o6
   have hato6 := zac hato (k2.trans0 K6)
   refine KGO ?_
   refine tyI.app (L.drop k) o6 K6.size (by rw [List.length_drop]) (fun hpos => ?_) (by rw [List.length_append, List.length_drop]; simp; omega) (by rw [List.length_append, List.length_drop]; simp; omega) fun v7 w7 o7 k7 => ?_
   ·rw [if_neg (by omega : ¬ k = vc)]
    exact ⟨go, _, rfl, by simpa using zbq lenI hato6 k⟩
   have K7 : Kp w2 w7 n_ := zaq o6 k7 w2 K6 (Nat.le_refl _)
   rw [List.append_assoc, List.singleton_append, ← hfin, ← hstep] at o7
   obtain ⟨a7, c7, rfl⟩ := zab o7
   have o7' := zaj o7 (show w.heap.size ≤ w2.heap.size from (hK.trans0 k2).size)
   refine KGO ?_
   exact ⟨(i + 1, _), ⟨rfl, rfl, v_int (by simp), trivial⟩, ⟨(hK.trans0 k2).trans0 K7, by dsimp only; omega, o7', fun h => by dsimp only at h; rw [hstep, hfin] at h; simp at h⟩, by dsimp only; omega⟩
end
section
variable {w : World}
theorem zgw {v : Value} (l : List (List UInt8)) (hv : RowT w v l) (hl : l.length ≤ 8796093022200) : Calls Tryz.prog 164 #[v] w fun e w' => ∃ v', e = .returned v' ∧ OwnT w' w.heap.size v' (sortT l) ∧ Kp w w' n_ := by
 obtain ⟨a, cap, rfl, hr⟩ := hv
 refine zaa (args := [.slice a l.length cap]) Tryz.func164 rfl NL ?_; refine GW ?_
 refine Loop.intro (ι := Nat × Value) (fun p => [(0, .slice a l.length cap), (3, p.2), (4, .int .i64 (p.1 : Nat))])
  (fun p wr => Kp w wr n_ ∧ p.1 ≤ l.length ∧ OwnT wr w.heap.size p.2 (sortT (l.take p.1)) ∧ (sortT (l.take p.1) = [] → p.2 = .slice none 0 0)) (fun p => l.length - p.1) (0, .slice none 0 0) ⟨rfl, rfl, rfl, trivial⟩ ⟨Kp.refl _ _, Nat.zero_le _, World.ownsRow_nil _ _ _ _, fun _ => rfl⟩ ?_
 rintro ⟨i, v⟩ gg wr ⟨hK, hi, ho, hnil⟩
 dsimp only at hi ho hnil ⊢
 have hlen := zcc (lt := ltT) (l.take i)
 have hstep : i < l.length → sortT (l.take (i + 1)) = insD ltT (l[i]?.getD []) (sortT (l.take i)) := fun h => by
  rw [List.take_succ_eq_append_getElem h, List.getElem?_eq_getElem h]
  exact zfP _ _
 have hall : l.length ≤ i → sortT (l.take i) = sortT l := fun h => by rw [List.take_of_length_le h]
 rw [List.length_take] at hlen
 have hlen : (sortT (l.take i)).length ≤ i := by unfold sortT; omega
 generalize sortT (l.take i) = L at *
 obtain ⟨va, vc, rfl⟩ := zab ho
 obtain ⟨hc1, hc2⟩ := zgv ho
 refine GW ?_
 by_cases hlt : i < l.length
 rotate_left
 ·refine KGO ?_
  exact ⟨_, rfl, hall (by omega) ▸ ho, hK⟩
 have hstep := hstep hlt
 rw [List.getElem?_eq_getElem hlt, Option.getD_some] at hstep
 obtain ⟨gl, ol, rfl, hgl, hatl⟩ := hr (by omega)
 have hcz := zbB (zac hatl hK) hlt
 generalize l[i] = z at *
 refine KGO ?_
 have kr := Kp.refl wr n_
 refine Loop.intro (ι := Nat) (fun k => [(0, .slice (some ⟨gl, ol, none⟩) l.length cap), (3, .slice va L.length vc), (4, .int .i64 (i : Nat)), (5, .int .i64 (k : Nat))])
  (fun k w2 => Kp wr w2 n_ ∧ k ≤ L.length ∧ ∀ x ∈ L.take k, ltT x z = true) (fun k => L.length - k) 0 ⟨rfl, rfl, rfl, rfl, trivial⟩ ⟨kr, Nat.zero_le _, fun x hx => by simp at hx⟩ ?_
 rintro k g2 w2 ⟨k2, hk, hpre⟩
 refine GW ?_
 have hcz2 := zak hcz k2
 have kr2 := Kp.refl w2 n_
 have kd2 : Kp w2 w2.drew n_ := kr2.drew
 have hfin : (∀ x, L[k]? = some x → ltT x z = false) → insD ltT z L = if L[k]? = some z then L else L.take k ++ z :: L.drop k := fun h => by
  have := zez stoT z L
  rw [zaJ (fun y => ltT y z) L k hpre hk h] at this
  exact this
 by_cases hkl : k < L.length
 ·obtain ⟨go, rfl, hBg, hgo, hato⟩ := zcx ho (by omega)
  have hco := zbB (zac hato k2) hkl
  by_cases hlz : ltT L[k] z = true
  ·have hn : ∀ x ∈ L.take (k + 1), ltT x z = true := fun x hx => by
    rw [List.take_succ_eq_append_getElem hkl, List.mem_append, List.mem_singleton] at hx
    rcases hx with hx | rfl
    ·exact hpre x hx
    ·exact hlz
   clear hfin
   have hbl : Op.bytesLess (str L[k]).toList (str z).toList = true := (zee _ _).trans hlz
   refine KGO ?_
   exact ⟨k + 1, ⟨rfl, rfl, rfl, v_int (by simp), trivial⟩, ⟨by first | exact k2 | exact k2.drew, by omega, hn⟩, by dsimp only; omega⟩
  have hfin := hfin (fun x hx => by rw [List.getElem?_eq_getElem hkl] at hx; injection hx with hx; subst hx; simpa using hlz)
  have hbl : Op.bytesLess (str L[k]).toList (str z).toList = false := (zee _ _).trans (by simpa using hlz)
  rw [List.getElem?_eq_getElem hkl] at hfin
  by_cases hez : L[k] = z
  ·have hez2 : str L[k] = str z := by rw [hez]
   rw [if_pos (by rw [hez])] at hfin
   refine KGO ?_
   exact ⟨(i + 1, _), ⟨rfl, rfl, v_int (by simp), trivial⟩, ⟨hK.trans0 k2.drew.drew, by dsimp only; omega, by dsimp only; rw [hstep, hfin]; exact zaf ho k2.drew.drew, fun h => by dsimp only at h; rw [hstep, hfin] at h; exact hnil h⟩, by dsimp only; omega⟩
  have hez2 : ¬ str L[k] = str z := fun e => hez (zbm.1 e)
  rw [if_neg (fun e => hez (by injection e))] at hfin
  clear hnil
  refine KGO ?_
  refine RunV.of (build0T _) ?_
  have k3 : Kp w2 (w2.drew.drew.alloc (.cells #[] 9)) n_ := (kd2.drew).alloc _
  have o3 := zbc 9 txC 1 (by decide) w2.drew.drew
  have hB3 := k3.size
  generalize w2.drew.drew.alloc (.cells #[] 9) = w3 at *
  have zz : w2.drew.drew.heap.size = w2.heap.size := rfl
  rw [zz] at o3 ⊢
  have hato3 := zac hato (k2.trans0 k3)
  refine KGO ?_
  rw [if_neg (by omega : ¬ 0 = vc)]
  refine tyT.app (L.take k) o3 hB3 (by rw [List.length_take]; omega) (fun _ => ⟨go, _, rfl, by simpa using zbw lenT hato3 k⟩) (by rw [List.length_take]; simp; omega) (by rw [List.length_take]; simp; omega) fun v4 w4 o4 k4 => ?_
  have K4 : Kp w2 w4 n_ := zaq o3 k4 w2 k3 (Nat.le_refl _)
  rw [List.nil_append] at o4
  obtain ⟨a4, c4, rfl⟩ := zab o4
  have hcz4 := zak hcz2 K4
  have hlt4 : (L.take k).length = k := by rw [List.length_take]; omega
  have kd4 : Kp w4 w4.drew n_ := (Kp.refl _ _).drew
  refine KGO ?_
  refine RunV.of (bsR1T _ _) ?_
  have k5 : Kp w4 (w4.alloc (.cells (List.toArray (txC z)) 9)) n_ := (Kp.refl _ _).alloc _
  have h5 := zao w4 9 (txC z)
  have o5 := zaf o4 k5
  generalize w4.alloc (.cells (List.toArray (txC z)) 9) = w5 at *
  generalize w4.heap.size = g5 at *
  refine KGO ?_
  refine tyT.app1 z o5 (K4.trans0 k5).size h5 (by omega) (by omega) fun v6 w6 o6 k6 => ?_
  have K6 : Kp w2 w6 n_ := zaq o5 k6 w2 (K4.trans0 k5) (Nat.le_refl _)
  obtain ⟨a6, c6, rfl⟩ := zab o6
  have hato6 := zac hato (k2.trans0 K6)
  refine KGO ?_
  refine tyT.app (L.drop k) o6 K6.size (by rw [List.length_drop]) (fun hpos => ?_) (by rw [List.length_append, List.length_drop]; simp; omega) (by rw [List.length_append, List.length_drop]; simp; omega) fun v7 w7 o7 k7 => ?_
  ·rw [if_neg (by omega : ¬ k = vc)]
   exact ⟨go, _, rfl, by simpa using zbq lenT hato6 k⟩
  have K7 : Kp w2 w7 n_ := zaq o6 k7 w2 K6 (Nat.le_refl _)
  rw [List.append_assoc, List.singleton_append, ← hfin, ← hstep] at o7
  obtain ⟨a7, c7, rfl⟩ := zab o7
  have o7' := zaj o7 (show w.heap.size ≤ w2.heap.size from (hK.trans0 k2).size)
  refine KGO ?_
  exact ⟨(i + 1, _), ⟨rfl, rfl, v_int (by simp), trivial⟩, ⟨(hK.trans0 k2).trans0 K7, by dsimp only; omega, o7', fun h => by dsimp only at h; rw [hstep, hfin] at h; simp at h⟩, by dsimp only; omega⟩
 ·have hkL : k = L.length := by omega
  have hfin := hfin (fun x hx => by rw [List.getElem?_eq_none (by omega)] at hx; cases hx)
  rw [List.getElem?_eq_none (by omega), if_neg (by simp)] at hfin
  by_cases hL0 : L.length = 0
  ·have hLn := List.eq_nil_of_length_eq_zero hL0
   have hva := hnil hLn
   subst hLn
   injection hva with e1 e2 e3
   subst e1; subst e3
   have hk0 : k = 0 := hkL
   subst hk0
   clear hnil hkl
   refine KGO ?_
   refine RunV.of (build0T _) ?_
   have k3 : Kp w2 (w2.drew.drew.alloc (.cells #[] 9)) n_ := kd2.drew.alloc _
   have o3 := zbc 9 txC 1 (by decide) w2.drew.drew
   have hB3 := k3.size
   generalize w2.drew.drew.alloc (.cells #[] 9) = w3 at *
   have zz : w2.drew.drew.heap.size = w2.heap.size := rfl
   rw [zz] at o3 ⊢
   refine KGO ?_
   refine zdF tyT rfl ?_
   refine KGO ?_
   refine tyT.app [] o3 hB3 rfl (fun h => absurd h (Nat.lt_irrefl 0)) (by simp) (by simp) fun v4 w4 o4 k4 => ?_
   have K4 : Kp w2 w4 n_ := zaq o3 k4 w2 k3 (Nat.le_refl _)
   rw [List.nil_append] at o4
   obtain ⟨a4, c4, rfl⟩ := zab o4
   have hcz4 := zak hcz2 K4
   have kd4 : Kp w4 w4.drew n_ := (Kp.refl _ _).drew
   refine KGO ?_
   refine RunV.of (bsR1T _ _) ?_
   have k5 : Kp w4 (w4.alloc (.cells (List.toArray (txC z)) 9)) n_ := (Kp.refl _ _).alloc _
   have h5 := zao w4 9 (txC z)
   have o5 := zaf o4 k5
   generalize w4.alloc (.cells (List.toArray (txC z)) 9) = w5 at *
   generalize w4.heap.size = g5 at *
   refine KGO ?_
   refine tyT.app1 z o5 (K4.trans0 k5).size h5 (by simp) (by simp) fun v6 w6 o6 k6 => ?_
   have K6 : Kp w2 w6 n_ := zaq o5 k6 w2 (K4.trans0 k5) (Nat.le_refl _)
   obtain ⟨a6, c6, rfl⟩ := zab o6
   refine KGO ?_
   refine zep tyT rfl ?_
   refine KGO ?_
   refine tyT.app [] o6 K6.size rfl (fun h => absurd h (Nat.lt_irrefl 0)) (by simp) (by simp) fun v7 w7 o7 k7 => ?_
   have K7 : Kp w2 w7 n_ := zaq o6 k7 w2 K6 (Nat.le_refl _)
   have hf2 : sortT (l.take (i + 1)) = [] ++ [z] ++ [] := by rw [hstep, hfin]; rfl
   rw [← hf2] at o7
   obtain ⟨a7, c7, rfl⟩ := zab o7
   have o7' := zaj o7 (show w.heap.size ≤ w2.heap.size from (hK.trans0 k2).size)
   refine KGO ?_
   exact ⟨(i + 1, _), ⟨rfl, rfl, v_int (by simp), trivial⟩, ⟨(hK.trans0 k2).trans0 K7, by dsimp only; omega, o7', fun h => by dsimp only at h; rw [hf2] at h; simp at h⟩, by dsimp only; omega⟩
  ·obtain ⟨go, rfl, hBg, hgo, hato⟩ := zcx ho (by omega)
   clear hnil
   refine KGO ?_
   refine RunV.of (build0T _) ?_
   have k3 : Kp w2 (w2.drew.drew.alloc (.cells #[] 9)) n_ := (kd2.drew).alloc _
   have o3 := zbc 9 txC 1 (by decide) w2.drew.drew
   have hB3 := k3.size
   generalize w2.drew.drew.alloc (.cells #[] 9) = w3 at *
   have zz : w2.drew.drew.heap.size = w2.heap.size := rfl
   rw [zz] at o3 ⊢
   have hato3 := zac hato (k2.trans0 k3)
   refine KGO ?_
   rw [if_neg (by omega : ¬ 0 = vc)]
   refine tyT.app (L.take k) o3 hB3 (by rw [List.length_take]; omega) (fun _ => ⟨go, _, rfl, by simpa using zbw lenT hato3 k⟩) (by rw [List.length_take]; simp; omega) (by rw [List.length_take]; simp; omega) fun v4 w4 o4 k4 => ?_
   have K4 : Kp w2 w4 n_ := zaq o3 k4 w2 k3 (Nat.le_refl _)
   rw [List.nil_append] at o4
   obtain ⟨a4, c4, rfl⟩ := zab o4
   have hcz4 := zak hcz2 K4
   have hlt4 : (L.take k).length = k := by rw [List.length_take]; omega
   have kd4 : Kp w4 w4.drew n_ := (Kp.refl _ _).drew
   refine KGO ?_
   refine RunV.of (bsR1T _ _) ?_
   have k5 : Kp w4 (w4.alloc (.cells (List.toArray (txC z)) 9)) n_ := (Kp.refl _ _).alloc _
   have h5 := zao w4 9 (txC z)
   have o5 := zaf o4 k5
   generalize w4.alloc (.cells (List.toArray (txC z)) 9) = w5 at *
   generalize w4.heap.size = g5 at *
   refine KGO ?_
   refine tyT.app1 z o5 (K4.trans0 k5).size h5 (by omega) (by omega) fun v6 w6 o6 k6 => ?_
   have K6 : Kp w2 w6 n_ := zaq o5 k6 w2 (K4.trans0 k5) (Nat.le_refl _)
   obtain ⟨a6, c6, rfl⟩ := zab o6
   have hato6 := zac hato (k2.trans0 K6)
   refine KGO ?_
   refine tyT.app (L.drop k) o6 K6.size (by rw [List.length_drop]) (fun hpos => ?_) (by rw [List.length_append, List.length_drop]; simp; omega) (by rw [List.length_append, List.length_drop]; simp; omega) fun v7 w7 o7 k7 => ?_
   ·rw [if_neg (by omega : ¬ k = vc)]
    exact ⟨go, _, rfl, by simpa using zbq lenT hato6 k⟩
   have K7 : Kp w2 w7 n_ := zaq o6 k7 w2 K6 (Nat.le_refl _)
   rw [List.append_assoc, List.singleton_append, ← hfin, ← hstep] at o7
   obtain ⟨a7, c7, rfl⟩ := zab o7
   have o7' := zaj o7 (show w.heap.size ≤ w2.heap.size from (hK.trans0 k2).size)
   refine KGO ?_
   exact ⟨(i + 1, _), ⟨rfl, rfl, v_int (by simp), trivial⟩, ⟨(hK.trans0 k2).trans0 K7, by dsimp only; omega, o7', fun h => by dsimp only at h; rw [hstep, hfin] at h; simp at h⟩, by dsimp only; omega⟩
end
end Go.Proofs.YtohhkegmbgancaaGreatDoor
namespace Go.Proofs.YtohhkegmbgancaaGreatDoor
set_option maxHeartbeats 8000000
open Go.RowKit Go.Pw Go.Vc Go.Cs Go.Lib
set_option linter.unusedVariables false
set_option maxRecDepth 100000
section
variable {w w' : World}
theorem ziF (w : World) : (Instr.buildSlice 26 7 [(0, .string ⟨#[]⟩), (1, .string ⟨#[105, 110, 98, 111, 120]⟩), (2, .string ⟨#[100, 114, 97, 102, 116, 115]⟩), (3, .string ⟨#[115, 101, 110, 116]⟩), (4, .string ⟨#[116, 114, 97, 115, 104]⟩), (5, .string ⟨#[106, 117, 110, 107]⟩), (6, .string ⟨#[97, 114, 99, 104, 105, 118, 101]⟩)].toArray).run Tryz.prog w =
  .ok (.slice (some ⟨w.heap.size, 0, none⟩) 7 7) (w.alloc (.cells (rolesL.map sv).toArray 9)) := by
 simp [Instr.buildSlice, go_sem, Tryz.runUnderlying26, rolesL, sv, str]
theorem zmc (s : List UInt8) : Calls Tryz.prog 104 #[.string (str s)] w fun e w' => e = .returned (.bool (decide (s ∈ rolesL))) ∧ Kp w w' n_ := by
 refine zaa (args := [.string (str s)]) Tryz.func104 rfl NL ?_; refine GW ?_
 refine RunV.of (ziF _) ?_
 have a1 := zao w 9 (rolesL.map sv)
 have k1 : Kp w (w.alloc (.cells (rolesL.map sv).toArray 9)) n_ := (Kp.refl _ _).alloc _
 generalize w.alloc (.cells (rolesL.map sv).toArray 9) = w1 at *
 generalize w.heap.size = g at *
 have h7 : rolesL.length = 7 := rfl
 refine KGO ?_
 refine Loop.intro (ι := Nat) (fun i => [(0, .string (str s)), (3, .slice (some ⟨g, 0, none⟩) 7 7), (4, .int .i64 (i : Nat))])
  (fun i wr => Kp w1 wr n_ ∧ i ≤ 7 ∧ ∀ x ∈ rolesL.take i, x ≠ s) (fun i => 7 - i) 0 ⟨rfl, rfl, rfl, trivial⟩ ⟨Kp.refl _ _, Nat.zero_le _, by simp⟩ ?_
 rintro i gg wr ⟨hK, hi, ht⟩
 refine GW ?_
 by_cases hlt : i < 7
 ·have hi7 : i < rolesL.length := by omega
  have c0 : wr.cell? ⟨g, 0 + i, none⟩ = some (.string (str rolesL[i])) := (zac a1 hK) i _ (by rw [List.getElem?_map, List.getElem?_eq_getElem hi7]; rfl)
  have hm : rolesL[i] ∈ rolesL := List.getElem_mem hi7
  have htk : rolesL.take (i + 1) = rolesL.take i ++ [rolesL[i]] := List.take_succ_eq_append_getElem hi7
  have hq : decide (str rolesL[i] = str s) = decide (rolesL[i] = s) := by rw [decide_eq_decide, zcU]
  generalize rolesL[i] = x at *
  by_cases he : x = s
  ·rw [decide_eq_true he] at hq
   refine KGO ?_
   exact ⟨zad (decide_eq_true (he ▸ hm)).symm, k1.trans0 hK⟩
  ·rw [decide_eq_false he] at hq
   refine KGO ?_
   refine ⟨i + 1, ⟨rfl, rfl, v_int (by simp), trivial⟩, ⟨hK, by omega, ?_⟩, by dsimp only; omega⟩
   rw [htk]
   intro b hb
   rcases List.mem_append.1 hb with hb | hb
   ·exact ht b hb
   ·rw [List.mem_singleton.1 hb]; exact he
 ·refine KGO ?_
  rw [List.take_of_length_le (by omega)] at ht
  exact ⟨zad (decide_eq_false fun h => ht s h rfl).symm, k1.trans0 hK⟩
theorem zet {v : Value} (l : List Bx) (hv : RowB w v l) (hl : l.length ≤ 1000) (hs : SmallB l) :
  Calls Tryz.prog 105 #[v] w fun e w' => e = .returned (.bool (rightL l)) ∧ Kp w w' n_ := by
 have hv0 := hv
 obtain ⟨a, cap, rfl, hr⟩ := hv
 refine zaa (args := [.slice a l.length cap]) Tryz.func105 rfl NL ?_; refine GW ?_
 have href := zln l
 by_cases hlen : 64 < l.length
 ·refine KGO ?_
  refine ⟨zad ?_, Kp.refl _ _⟩
  cases hq : rightL l with
  | false => rfl
  | true => have := (href.1 hq).1; omega
 refine KGO ?_
 refine Loop.intro (ι := Nat) (fun i => [(0, .slice a l.length cap), (3, .int .i64 (i : Nat))])
  (fun i wr => Kp w wr n_ ∧ i ≤ l.length ∧ ∀ j (hj : j < l.length), j < i → OkR l j l[j]) (fun i => l.length - i) 0 ⟨rfl, rfl, trivial⟩ ⟨Kp.refl _ _, Nat.zero_le _, fun j _ h => by omega⟩ ?_
 rintro i gg wr ⟨hK, hi, hok⟩
 refine GW ?_
 by_cases hlt : i < l.length
 ·obtain ⟨g, o, rfl, hg, hat⟩ := hr (by omega)
  have hbs := hs l[i] (List.getElem_mem hlt)
  have hfalse : ¬ OkR l i l[i] → rightL l = false := fun h => by
   cases hq : rightL l with
   | false => rfl
   | true => exact absurd ((href.1 hq).2 i hlt) h
  refine KGO ?_
  refine CallS.of (Tryz.call103 _ _) (zgu (w := wr) (str l[i].name) (by rw [zav]; omega)) ?_
  rintro e w1 ⟨rfl, k1⟩
  rw [L_str]
  have K1 := hK.trans0 k1
  refine RT ?_
  refine KGO ?_
  refine CallS.of (Tryz.call104 _ _) (zmc (w := w1) l[i].role) ?_
  rintro e w2 ⟨rfl, k2⟩
  have K2 := K1.trans0 k2
  refine RT ?_
  by_cases q1 : namedB l[i].name = true
  rotate_left
  ·rw [show namedB l[i].name = false by simpa using q1]
   refine KGO ?_
   exact ⟨zad (hfalse fun h => q1 h.named).symm, K2.drew⟩
  rw [q1]
  by_cases q2 : l[i].role ∈ rolesL
  rotate_left
  ·rw [decide_eq_false q2]
   refine KGO ?_
   exact ⟨zad (hfalse fun h => q2 h.role).symm, K2.drew⟩
  rw [decide_eq_true q2]
  by_cases h3 : l[i].id < 1
  ·refine KGO ?_
   exact ⟨zad (hfalse fun h => by have := h.pos; omega).symm, K2.drew⟩
  by_cases h4 : 1099511627776 < l[i].id
  ·refine KGO ?_
   exact ⟨zad (hfalse fun h => by have := h.pos; omega).symm, K2.drew⟩
  by_cases h0 : i = 0
  ·have hasc : ∀ c, 0 < i → l[i - 1]? = some c → c.id < l[i].id := fun c h => by omega
   refine KGO ?_
   refine CallS.of (Tryz.call108 _ _) (zdS (w := w2.drew) l l[i].id (hv0.keep K2.drew) (by omega)) ?_
   rintro e w3 ⟨rfl, k3⟩
   have K3 := K2.drew.trans0 k3
   refine RT ?_
   by_cases h6 : 8 < deepR l l[i].id
   ·refine KGO ?_
    exact ⟨zad (hfalse fun h => by have := h.deep; omega).symm, K3⟩
   refine KGO ?_
   have hokN : (∀ k c, k < i → l[k]? = some c → ¬ (c.role = l[i].role ∧ l[i].role ≠ []) ∧ ¬ (c.up = l[i].up ∧ foldL c.name = foldL l[i].name)) → OkR l i l[i] := fun h =>
    ⟨q1, q2, ⟨by omega, by omega⟩, hasc, by omega, h⟩
   clear hasc h0
   refine Loop.intro (ι := Nat) (fun k => [(0, .slice (some ⟨g, o, none⟩) l.length cap), (3, .int .i64 (i : Nat)), (6, .int .i64 (k : Nat))])
    (fun k wk => Kp w wk n_ ∧ k ≤ i ∧ ∀ k' c, k' < k → l[k']? = some c → ¬ (c.role = l[i].role ∧ l[i].role ≠ []) ∧ ¬ (c.up = l[i].up ∧ foldL c.name = foldL l[i].name)) (fun k => i - k) 0 ⟨rfl, rfl, rfl, trivial⟩ ⟨K3, Nat.zero_le _, fun _ _ h => by omega⟩ ?_
   rintro k gk wk ⟨kk, hki, hfree⟩
   refine GW ?_
   by_cases hkt : k < i
   ·have hk2 : k < l.length := by omega
    have hbk := hs l[k] (List.getElem_mem hk2)
    have hnext0 : ∀ (hno : ¬ (l[k].role = l[i].role ∧ l[i].role ≠ [])) (hu : ¬ (l[k].up = l[i].up ∧ foldL l[k].name = foldL l[i].name)), (∀ k' c, k' < k + 1 → l[k']? = some c → ¬ (c.role = l[i].role ∧ l[i].role ≠ []) ∧ ¬ (c.up = l[i].up ∧ foldL c.name = foldL l[i].name)) := fun hno hu k' c hk' hc => by
     by_cases e : k' < k
     ·exact hfree k' c e hc
     ·obtain rfl : k' = k := by omega
      rw [List.getElem?_eq_getElem hk2] at hc
      obtain rfl := Option.some.inj hc
      exact ⟨hno, hu⟩
    have d1 : decide (str l[k].role = str l[i].role) = decide (l[k].role = l[i].role) := by rw [decide_eq_decide, zcU]
    have d2 := zja l[i].role
    by_cases r1 : l[k].role = l[i].role
    ·rw [decide_eq_true r1] at d1
     by_cases r2 : l[i].role = []
     ·rw [decide_eq_true r2] at d2
      have hno : ¬ (l[k].role = l[i].role ∧ l[i].role ≠ []) := fun h => h.2 r2
      by_cases u1 : l[k].up = l[i].up
      rotate_left
      ·refine KGO ?_
       exact ⟨k + 1, ⟨rfl, rfl, v_int (by simp), trivial⟩, ⟨kk.drew, by omega, hnext0 hno fun h => u1 h.1⟩, by dsimp only; omega⟩
      refine KGO ?_
      refine CallS.of (Tryz.call160 _ _) (zdr (w := wk.drew) l[k].name l[i].name (by omega) (by omega)) ?_
      rintro e w4 ⟨rfl, k4⟩
      have K4 := kk.drew.trans0 k4
      refine RT ?_
      by_cases u2 : foldL l[k].name = foldL l[i].name
      ·rw [decide_eq_true u2]
       refine KGO ?_
       exact ⟨zad (hfalse fun h => (h.free k _ hkt (List.getElem?_eq_getElem hk2)).2 ⟨u1, u2⟩).symm, K4⟩
      ·rw [decide_eq_false u2]
       refine KGO ?_
       exact ⟨k + 1, ⟨rfl, rfl, v_int (by simp), trivial⟩, ⟨K4, by omega, hnext0 hno fun h => u2 h.2⟩, by dsimp only; omega⟩
     ·rw [decide_eq_false r2] at d2
      refine KGO ?_
      exact ⟨zad (hfalse fun h => (h.free k _ hkt (List.getElem?_eq_getElem hk2)).1 ⟨r1, r2⟩).symm, kk.drew⟩
    ·rw [decide_eq_false r1] at d1
     have hno : ¬ (l[k].role = l[i].role ∧ l[i].role ≠ []) := fun h => r1 h.1
     by_cases u1 : l[k].up = l[i].up
     rotate_left
     ·refine KGO ?_
      exact ⟨k + 1, ⟨rfl, rfl, v_int (by simp), trivial⟩, ⟨kk.drew, by omega, hnext0 hno fun h => u1 h.1⟩, by dsimp only; omega⟩
     refine KGO ?_
     refine CallS.of (Tryz.call160 _ _) (zdr (w := wk.drew) l[k].name l[i].name (by omega) (by omega)) ?_
     rintro e w4 ⟨rfl, k4⟩
     have K4 := kk.drew.trans0 k4
     refine RT ?_
     by_cases u2 : foldL l[k].name = foldL l[i].name
     ·rw [decide_eq_true u2]
      refine KGO ?_
      exact ⟨zad (hfalse fun h => (h.free k _ hkt (List.getElem?_eq_getElem hk2)).2 ⟨u1, u2⟩).symm, K4⟩
     ·rw [decide_eq_false u2]
      refine KGO ?_
      exact ⟨k + 1, ⟨rfl, rfl, v_int (by simp), trivial⟩, ⟨K4, by omega, hnext0 hno fun h => u2 h.2⟩, by dsimp only; omega⟩
   ·refine KGO ?_
    have hk3 : k = i := by omega
    refine ⟨i + 1, ⟨rfl, v_int (by simp), trivial⟩, ⟨kk, by omega, fun j hj h => ?_⟩, by dsimp only; omega⟩
    by_cases hj2 : j < i
    ·exact hok j hj hj2
    ·obtain rfl : j = i := by omega
     rw [hk3] at hfree
     exact hokN hfree
  ·have hp : ((i : Int) - 1).toNat < l.length := by omega
   have hpe : ((i : Int) - 1).toNat = i - 1 := by omega
   have hpp : l[i - 1]? = some l[((i : Int) - 1).toNat] := by rw [← hpe]; exact List.getElem?_eq_getElem hp
   by_cases h5 : l[i].id ≤ l[((i : Int) - 1).toNat].id
   ·refine KGO ?_
    exact ⟨zad (hfalse fun h => by have := h.asc _ (by omega) hpp; omega).symm, K2.drew⟩
   ·have hasc : ∀ c, 0 < i → l[i - 1]? = some c → c.id < l[i].id := fun c _ h => by
     rw [hpp] at h
     rw [← Option.some.inj h]
     omega
    refine KGO ?_
    refine CallS.of (Tryz.call108 _ _) (zdS (w := w2.drew) l l[i].id (hv0.keep K2.drew) (by omega)) ?_
    rintro e w3 ⟨rfl, k3⟩
    have K3 := K2.drew.trans0 k3
    refine RT ?_
    by_cases h6 : 8 < deepR l l[i].id
    ·refine KGO ?_
     exact ⟨zad (hfalse fun h => by have := h.deep; omega).symm, K3⟩
    refine KGO ?_
    have hokN : (∀ k c, k < i → l[k]? = some c → ¬ (c.role = l[i].role ∧ l[i].role ≠ []) ∧ ¬ (c.up = l[i].up ∧ foldL c.name = foldL l[i].name)) → OkR l i l[i] := fun h =>
     ⟨q1, q2, ⟨by omega, by omega⟩, hasc, by omega, h⟩
    clear hasc h0
    refine Loop.intro (ι := Nat) (fun k => [(0, .slice (some ⟨g, o, none⟩) l.length cap), (3, .int .i64 (i : Nat)), (6, .int .i64 (k : Nat))])
     (fun k wk => Kp w wk n_ ∧ k ≤ i ∧ ∀ k' c, k' < k → l[k']? = some c → ¬ (c.role = l[i].role ∧ l[i].role ≠ []) ∧ ¬ (c.up = l[i].up ∧ foldL c.name = foldL l[i].name)) (fun k => i - k) 0 ⟨rfl, rfl, rfl, trivial⟩ ⟨K3, Nat.zero_le _, fun _ _ h => by omega⟩ ?_
    rintro k gk wk ⟨kk, hki, hfree⟩
    refine GW ?_
    by_cases hkt : k < i
    ·have hk2 : k < l.length := by omega
     have hbk := hs l[k] (List.getElem_mem hk2)
     have hnext0 : ∀ (hno : ¬ (l[k].role = l[i].role ∧ l[i].role ≠ [])) (hu : ¬ (l[k].up = l[i].up ∧ foldL l[k].name = foldL l[i].name)), (∀ k' c, k' < k + 1 → l[k']? = some c → ¬ (c.role = l[i].role ∧ l[i].role ≠ []) ∧ ¬ (c.up = l[i].up ∧ foldL c.name = foldL l[i].name)) := fun hno hu k' c hk' hc => by
      by_cases e : k' < k
      ·exact hfree k' c e hc
      ·obtain rfl : k' = k := by omega
       rw [List.getElem?_eq_getElem hk2] at hc
       obtain rfl := Option.some.inj hc
       exact ⟨hno, hu⟩
     have d1 : decide (str l[k].role = str l[i].role) = decide (l[k].role = l[i].role) := by rw [decide_eq_decide, zcU]
     have d2 := zja l[i].role
     by_cases r1 : l[k].role = l[i].role
     ·rw [decide_eq_true r1] at d1
      by_cases r2 : l[i].role = []
      ·rw [decide_eq_true r2] at d2
       have hno : ¬ (l[k].role = l[i].role ∧ l[i].role ≠ []) := fun h => h.2 r2
       by_cases u1 : l[k].up = l[i].up
       rotate_left
       ·refine KGO ?_
        exact ⟨k + 1, ⟨rfl, rfl, v_int (by simp), trivial⟩, ⟨kk.drew, by omega, hnext0 hno fun h => u1 h.1⟩, by dsimp only; omega⟩
       refine KGO ?_
       refine CallS.of (Tryz.call160 _ _) (zdr (w := wk.drew) l[k].name l[i].name (by omega) (by omega)) ?_
       rintro e w4 ⟨rfl, k4⟩
       have K4 := kk.drew.trans0 k4
       refine RT ?_
       by_cases u2 : foldL l[k].name = foldL l[i].name
       ·rw [decide_eq_true u2]
        refine KGO ?_
        exact ⟨zad (hfalse fun h => (h.free k _ hkt (List.getElem?_eq_getElem hk2)).2 ⟨u1, u2⟩).symm, K4⟩
       ·rw [decide_eq_false u2]
        refine KGO ?_
        exact ⟨k + 1, ⟨rfl, rfl, v_int (by simp), trivial⟩, ⟨K4, by omega, hnext0 hno fun h => u2 h.2⟩, by dsimp only; omega⟩
      ·rw [decide_eq_false r2] at d2
       refine KGO ?_
       exact ⟨zad (hfalse fun h => (h.free k _ hkt (List.getElem?_eq_getElem hk2)).1 ⟨r1, r2⟩).symm, kk.drew⟩
     ·rw [decide_eq_false r1] at d1
      have hno : ¬ (l[k].role = l[i].role ∧ l[i].role ≠ []) := fun h => r1 h.1
      by_cases u1 : l[k].up = l[i].up
      rotate_left
      ·refine KGO ?_
       exact ⟨k + 1, ⟨rfl, rfl, v_int (by simp), trivial⟩, ⟨kk.drew, by omega, hnext0 hno fun h => u1 h.1⟩, by dsimp only; omega⟩
      refine KGO ?_
      refine CallS.of (Tryz.call160 _ _) (zdr (w := wk.drew) l[k].name l[i].name (by omega) (by omega)) ?_
      rintro e w4 ⟨rfl, k4⟩
      have K4 := kk.drew.trans0 k4
      refine RT ?_
      by_cases u2 : foldL l[k].name = foldL l[i].name
      ·rw [decide_eq_true u2]
       refine KGO ?_
       exact ⟨zad (hfalse fun h => (h.free k _ hkt (List.getElem?_eq_getElem hk2)).2 ⟨u1, u2⟩).symm, K4⟩
      ·rw [decide_eq_false u2]
       refine KGO ?_
       exact ⟨k + 1, ⟨rfl, rfl, v_int (by simp), trivial⟩, ⟨K4, by omega, hnext0 hno fun h => u2 h.2⟩, by dsimp only; omega⟩
    ·refine KGO ?_
     have hk3 : k = i := by omega
     refine ⟨i + 1, ⟨rfl, v_int (by simp), trivial⟩, ⟨kk, by omega, fun j hj h => ?_⟩, by dsimp only; omega⟩
     by_cases hj2 : j < i
     ·exact hok j hj hj2
     ·obtain rfl : j = i := by omega
      rw [hk3] at hfree
      exact hokN hfree
 ·refine KGO ?_
  have e : i = l.length := by omega
  refine ⟨zad ?_, hK⟩
  exact (href.2 ⟨by omega, fun j hj => hok j hj (by omega)⟩).symm
end
end Go.Proofs.YtohhkegmbgancaaGreatDoor
