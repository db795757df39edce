/- Helper lemmas that the proved statement rests on; no conditions of their own. -/
import Derived.Lib.AtoiAll
import Derived.Lib.TrimAscii
import Derived.Test.YtmjeacpoobbjjaaGreatDoorGTk4
set_option linter.unusedVariables false
set_option maxHeartbeats 4000000
set_option maxRecDepth 100000
namespace Go.Proofs.YtmjeacpoobbjjaaGreatDoor
open Go.RowKit Go.Pw Go.Vc Go.Cs Go.Lib
section
variable {w : World}
theorem zjS (s : ByteArray) (hs : s.size ≤ 100000000) : Calls Tryz.prog 188 #[.string s] w fun e w' => e = .returned (.string (str ((L s).map lowerB))) ∧ Kp w w' n_ := by
 have hl := L_len s
 refine zaa (args := [.string s]) Tryz.func188 rfl NL ?_; refine GW ?_
 refine RunV.of (Lib.run_convert_string_bytes w _ _ 5 s Tryz.underlying9 Tryz.underlying107 Tryz.underlying5) ?_
 refine GO ?_
 obtain ⟨h0, K0⟩ := zbH w 5 s
 generalize grownCap w s.size 0 5 = cap at *
 generalize Lib.bytesWorld w 5 s = w0 at *
 refine Loop.intro (ι := Nat) (fun i => [(3, .slice (some ⟨w.heap.size, 0, none⟩) s.size cap), (8, .slice (some ⟨w.heap.size, 0, none⟩) s.size cap), (9, .int .i64 s.size), (10, .int .i64 i)])
  (fun i wr => Kp w wr n_ ∧ i ≤ s.size ∧ Bs wr w.heap.size (((L s).take i).map lowerB ++ (L s).drop i)) (fun i => s.size - i) 0 ⟨rfl, rfl, rfl, rfl, trivial⟩
  ⟨K0, Nat.zero_le _, h0⟩ ?_
 rintro n g wr ⟨hK, hn, hr⟩
 refine GW ?_
 by_cases hlt : n < s.size
 ·obtain ⟨x, hx0, hx1, hx2, hx3⟩ := zdu s n hlt
  have hlen : (((L s).take n).map lowerB).length = n := by rw [List.length_map, List.length_take]; omega
  have hlen2 : (((L s).take n).map lowerB ++ (L s).drop n).length = s.size := by rw [List.length_append, hlen, List.length_drop]; omega
  have hc := hr.cell (i := n) (by omega)
  have hget : (((L s).take n).map lowerB ++ (L s).drop n).getD n 0 = x := by
   rw [List.getD, List.getElem?_append_right (by omega), hlen, Nat.sub_self, hx3]; rfl
  rw [hget] at hc
  refine GO ?_
  have hxl := UInt8.toNat_lt x
  by_cases h1 : 65 ≤ x.toNat
  ·by_cases h2 : x.toNat ≤ 90
   ·refine GO ?_
    have e : ((x.toNat : Nat) : Int) + 97 - 65 = ((lowerB x).toNat : Int) := by
     unfold lowerB; rw [if_pos ⟨h1, h2⟩]; simp; omega
    rw [e]
    obtain ⟨⟨u, s1⟩, s2, s3⟩ := hr.store (i := n) (by omega) (lowerB x)
    refine Store.one (by rfl) ⟨rfl, by simp, by simp⟩ s1 s2 ?_
    have K1 := hK.setCell (p := ⟨w.heap.size, 0 + n, none⟩) (.inr (Nat.le_refl _)) (.int .u8 ((lowerB x).toNat : Int))
    generalize wr.setCell ⟨w.heap.size, 0 + n, none⟩ (.int .u8 ((lowerB x).toNat : Int)) = w2 at *
    refine GO ?_
    refine ⟨n + 1, ⟨rfl, rfl, rfl, v_int (by simp), trivial⟩, ⟨K1, by omega, ?_⟩, by dsimp only; omega⟩
    rw [List.set_append_right _ _ (by omega), hlen, Nat.sub_self, hx3, List.set_cons_zero] at s3
    rw [hx2, List.map_append, List.append_assoc]; exact s3
   ·refine GO ?_
    have e : lowerB x = x := by unfold lowerB; rw [if_neg (by omega)]
    refine ⟨n + 1, ⟨rfl, rfl, rfl, v_int (by simp), trivial⟩, ⟨hK, by omega, ?_⟩, by dsimp only; omega⟩
    rw [hx3] at hr
    rw [hx2, List.map_append, List.append_assoc, List.map_cons, e]; exact hr
  ·refine GO ?_
   have e : lowerB x = x := by unfold lowerB; rw [if_neg (by omega)]
   refine ⟨n + 1, ⟨rfl, rfl, rfl, v_int (by simp), trivial⟩, ⟨hK, by omega, ?_⟩, by dsimp only; omega⟩
   rw [hx3] at hr
   rw [hx2, List.map_append, List.append_assoc, List.map_cons, e]; exact hr
 ·refine GO ?_
  have hnn : n = s.size := by omega
  rw [hnn, ← hl, List.take_length, List.drop_length, List.append_nil] at hr
  have hll : s.size = ((L s).map lowerB).length := by rw [List.length_map]; exact hl.symm
  rw [hll]
  refine RunV.back Tryz.underlying107 Tryz.underlying5 Tryz.underlying9 hr ?_
  refine GO ?_
  exact ⟨rfl, hK⟩
def fb (b : Nat) : Value := .func (.func 207) #[] #[.pointer (some ⟨b, 0, none⟩)]
def fr : Value := .func (.func 171) #[] #[]
def tbl (b1 b2 b3 : Nat) : SM := [(str nmUsAscii, fb b1), (str nmAscii, fb b1), (str nmUtf_8, fr), (str nmUtf8, fr), (str nmIso, fb b2), (str nmLatin1, fb b2), (str nmWin, fb b3), (str nmCp, fb b3)]
theorem zln (b1 b2 b3 : Nat) (m : List UInt8) : (tbl b1 b2 b3).get (str m) = if kindL m = 1 then some (fb b1) else if kindL m = 2 then some fr else if kindL m = 3 then some (fb b2) else if kindL m = 4 then some (fb b3) else none := by
 unfold tbl kindL
 simp only [SM.get, zaD]
 by_cases h0 : m = nmUsAscii
 ·simp only [if_pos h0]; rfl
 simp only [if_neg h0]
 by_cases h1 : m = nmAscii
 ·simp only [if_pos h1]; rfl
 simp only [if_neg h1]
 by_cases h2 : m = nmUtf_8
 ·simp only [if_pos h2]; rfl
 simp only [if_neg h2]
 by_cases h3 : m = nmUtf8
 ·simp only [if_pos h3]; rfl
 simp only [if_neg h3]
 by_cases h4 : m = nmIso
 ·simp only [if_pos h4]; rfl
 simp only [if_neg h4]
 by_cases h5 : m = nmLatin1
 ·simp only [if_pos h5]; rfl
 simp only [if_neg h5]
 by_cases h6 : m = nmWin
 ·simp only [if_pos h6]; rfl
 simp only [if_neg h6]
 by_cases h7 : m = nmCp
 ·simp only [if_pos h7]; rfl
 simp only [if_neg h7]
 rfl
theorem zbF {w0 w w' : World} {b : Nat} (k : Kp w0 w n_) (k' : Kp w w' (one_ b)) (hb : w0.heap.size ≤ b) : Kp w0 w' n_ := k.trans k' fun i hi h => by
 have h : i = b := h
 omega
theorem zhA : Calls Tryz.prog 187 #[] w fun e w' => ∃ b b1 b2 b3, e = .returned (.map (some b)) ∧ SMap w' b (tbl b1 b2 b3) ∧ w'.cell? ⟨b1, 0, none⟩ = some (.func (.func 205) #[] #[]) ∧ w'.cell? ⟨b2, 0, none⟩ = some (.func (.func 206) #[] #[]) ∧
  w'.cell? ⟨b3, 0, none⟩ = some (.func (.func 190) #[] #[]) ∧ Kp w w' n_ := by
 refine zaa (args := []) Tryz.func187 rfl NL ?_; refine GW ?_
 refine CallS.of (Tryz.call189 _ _) (zbz 205) ?_
 rintro e w1 ⟨b1, rfl, c1, k1⟩
 refine RT ?_
 refine CallS.of (Tryz.call189 _ _) (zbz 206) ?_
 rintro e w2 ⟨b2, rfl, c2, k2⟩
 refine RT ?_
 refine CallS.of (Tryz.call189 _ _) (zbz 190) ?_
 rintro e w3 ⟨b3, rfl, c3, k3⟩
 refine RT ?_
 have K3 := (k1.trans0 k2).trans0 k3
 have c1 := (k3.cell (p := ⟨b1, 0, none⟩) (Nat.lt_of_lt_of_le (zaU c1) k2.size) id).trans ((k2.cell (p := ⟨b1, 0, none⟩) (zaU c1) id).trans c1)
 have c2 := (k3.cell (p := ⟨b2, 0, none⟩) (zaU c2) id).trans c2
 refine RunV.of (w' := w3.alloc (.map #[] 0)) (v := .map (some w3.heap.size)) (by simp [Instr.makeMap]) ?_
 refine GW ?_
 have m0 : SMap (w3.alloc (.map #[] 0)) w3.heap.size [] := ⟨_, _, heap_alloc_new _ _, rfl⟩
 have k4 : Kp w3 (w3.alloc (.map #[] 0)) n_ := (Kp.refl _ _).alloc _
 generalize w3.alloc (.map #[] 0) = w4 at *
 have K4 := K3.trans0 k4
 refine RunU.upd Tryz.underlying180 Tryz.underlying9 m0 (str nmUsAscii) (fb b1) fun w5 m1 k5 => ?_
 rw [SM.put_newL _ _ _ [] rfl (by decide +kernel)] at m1
 have K5 := zbF K4 k5 K3.size
 refine GW ?_
 refine RunU.upd Tryz.underlying180 Tryz.underlying9 m1 (str nmAscii) (fb b1) fun w6 m2 k6 => ?_
 rw [SM.put_newL _ _ _ [nmUsAscii] rfl (by decide +kernel)] at m2
 have K6 := zbF K5 k6 K3.size
 refine GW ?_
 refine RunU.upd Tryz.underlying180 Tryz.underlying9 m2 (str nmUtf_8) (fr) fun w7 m3 k7 => ?_
 rw [SM.put_newL _ _ _ [nmUsAscii, nmAscii] rfl (by decide +kernel)] at m3
 have K7 := zbF K6 k7 K3.size
 refine GW ?_
 refine RunU.upd Tryz.underlying180 Tryz.underlying9 m3 (str nmUtf8) (fr) fun w8 m4 k8 => ?_
 rw [SM.put_newL _ _ _ [nmUsAscii, nmAscii, nmUtf_8] rfl (by decide +kernel)] at m4
 have K8 := zbF K7 k8 K3.size
 refine GW ?_
 refine RunU.upd Tryz.underlying180 Tryz.underlying9 m4 (str nmIso) (fb b2) fun w9 m5 k9 => ?_
 rw [SM.put_newL _ _ _ [nmUsAscii, nmAscii, nmUtf_8, nmUtf8] rfl (by decide +kernel)] at m5
 have K9 := zbF K8 k9 K3.size
 refine GW ?_
 refine RunU.upd Tryz.underlying180 Tryz.underlying9 m5 (str nmLatin1) (fb b2) fun w10 m6 k10 => ?_
 rw [SM.put_newL _ _ _ [nmUsAscii, nmAscii, nmUtf_8, nmUtf8, nmIso] rfl (by decide +kernel)] at m6
 have K10 := zbF K9 k10 K3.size
 refine GW ?_
 refine RunU.upd Tryz.underlying180 Tryz.underlying9 m6 (str nmWin) (fb b3) fun w11 m7 k11 => ?_
 rw [SM.put_newL _ _ _ [nmUsAscii, nmAscii, nmUtf_8, nmUtf8, nmIso, nmLatin1] rfl (by decide +kernel)] at m7
 have K11 := zbF K10 k11 K3.size
 refine GW ?_
 refine RunU.upd Tryz.underlying180 Tryz.underlying9 m7 (str nmCp) (fb b3) fun w12 m8 k12 => ?_
 rw [SM.put_newL _ _ _ [nmUsAscii, nmAscii, nmUtf_8, nmUtf8, nmIso, nmLatin1, nmWin] rfl (by decide +kernel)] at m8
 have K12 := zbF K11 k12 K3.size
 refine GW ?_
 have hb {b : Nat} {v : Value} (c : w3.cell? ⟨b, 0, none⟩ = some v) : w12.cell? ⟨b, 0, none⟩ = some v := by
  have hlt : b < w3.heap.size := zaU c
  have kk : Kp w3 w12 (one_ w3.heap.size) := (((((((k4.of_none.trans' k5).trans' k6).trans' k7).trans' k8).trans' k9).trans' k10).trans' k11).trans' k12
  rw [kk.cell (p := ⟨b, 0, none⟩) hlt (fun e => by have e : b = w3.heap.size := e; omega)]
  exact c
 exact ⟨w3.heap.size, b1, b2, b3, rfl, m8, hb c1, hb c2, hb c3, K12⟩
end
end Go.Proofs.YtmjeacpoobbjjaaGreatDoor
namespace Go.Proofs.YtmjeacpoobbjjaaGreatDoor
open Go.Shelf Go.RowKit Go.Pw Go.Vc Go.Cs Go.Lib Go.Tk Go.Hd
section
variable {w : World}
theorem zeT (k : FuncId) (hk : k = 69 ∨ k = 73 ∨ k = 52) (s : ByteArray) (hs : s.size ≤ 100000000) (w : World) : Calls Tryz.prog k #[.string s] w fun e w' => e = .returned (.string (str (smallH (L s)))) ∧ Kp w w' n_ := by
 have hl := L_len s
 unfold smallH
 rcases hk with rfl | rfl | rfl
 refine zaa (args := [.string s]) Tryz.func69 rfl NL ?_; refine GW ?_
 rotate_left
 refine zaa (args := [.string s]) Tryz.func73 rfl NL ?_; refine GW ?_
 rotate_left
 refine zaa (args := [.string s]) Tryz.func52 rfl NL ?_; refine GW ?_
 rotate_left
 all_goals
  refine RunV.of (Lib.run_convert_string_bytes w _ _ 5 s Tryz.underlying9 Tryz.underlying107 Tryz.underlying5) ?_
  refine GO ?_
  obtain ⟨h0, K0⟩ := zbH w 5 s
  generalize grownCap w s.size 0 5 = cap at *
  generalize Lib.bytesWorld w 5 s = w0 at *
  refine Loop.intro (ι := Nat) (fun i => [(3, .slice (some ⟨w.heap.size, 0, none⟩) s.size cap), (8, .slice (some ⟨w.heap.size, 0, none⟩) s.size cap), (9, .int .i64 s.size), (10, .int .i64 i)])
   (fun i wr => Kp w wr n_ ∧ i ≤ s.size ∧ Bs wr w.heap.size (((L s).take i).map lowerB ++ (L s).drop i)) (fun i => s.size - i) 0 ⟨rfl, rfl, rfl, rfl, trivial⟩
   ⟨K0, Nat.zero_le _, h0⟩ ?_
  rintro n g wr ⟨hK, hn, hr⟩
  refine GW ?_
  by_cases hlt : n < s.size
  ·obtain ⟨x, hx0, hx1, hx2, hx3⟩ := zdu s n hlt
   have hlen : (((L s).take n).map lowerB).length = n := by rw [List.length_map, List.length_take]; omega
   have hlen2 : (((L s).take n).map lowerB ++ (L s).drop n).length = s.size := by rw [List.length_append, hlen, List.length_drop]; omega
   have hc := hr.cell (i := n) (by omega)
   have hget : (((L s).take n).map lowerB ++ (L s).drop n).getD n 0 = x := by
    rw [List.getD, List.getElem?_append_right (by omega), hlen, Nat.sub_self, hx3]; rfl
   rw [hget] at hc
   refine GO ?_
   have hxl := UInt8.toNat_lt x
   by_cases h1 : 65 ≤ x.toNat
   ·by_cases h2 : x.toNat ≤ 90
    ·refine GO ?_
     have e : ((x.toNat : Nat) : Int) + 32 = ((lowerB x).toNat : Int) := by
      unfold lowerB; rw [if_pos ⟨h1, h2⟩]; simp; omega
     rw [e]
     obtain ⟨⟨u, s1⟩, s2, s3⟩ := hr.store (i := n) (by omega) (lowerB x)
     refine Store.one (by rfl) ⟨rfl, by simp, by simp⟩ s1 s2 ?_
     have K1 := hK.setCell (p := ⟨w.heap.size, 0 + n, none⟩) (.inr (Nat.le_refl _)) (.int .u8 ((lowerB x).toNat : Int))
     generalize wr.setCell ⟨w.heap.size, 0 + n, none⟩ (.int .u8 ((lowerB x).toNat : Int)) = w2 at *
     refine GO ?_
     refine ⟨n + 1, ⟨rfl, rfl, rfl, v_int (by simp), trivial⟩, ⟨K1, by omega, ?_⟩, by dsimp only; omega⟩
     rw [List.set_append_right _ _ (by omega), hlen, Nat.sub_self, hx3, List.set_cons_zero] at s3
     rw [hx2, List.map_append, List.append_assoc]; exact s3
    ·refine GO ?_
     have e : lowerB x = x := by unfold lowerB; rw [if_neg (by omega)]
     refine ⟨n + 1, ⟨rfl, rfl, rfl, v_int (by simp), trivial⟩, ⟨hK, by omega, ?_⟩, by dsimp only; omega⟩
     rw [hx3] at hr
     rw [hx2, List.map_append, List.append_assoc, List.map_cons, e]; exact hr
   ·refine GO ?_
    have e : lowerB x = x := by unfold lowerB; rw [if_neg (by omega)]
    refine ⟨n + 1, ⟨rfl, rfl, rfl, v_int (by simp), trivial⟩, ⟨hK, by omega, ?_⟩, by dsimp only; omega⟩
    rw [hx3] at hr
    rw [hx2, List.map_append, List.append_assoc, List.map_cons, e]; exact hr
  ·refine GO ?_
   have hnn : n = s.size := by omega
   rw [hnn, ← hl, List.take_length, List.drop_length, List.append_nil] at hr
   have hll : s.size = ((L s).map lowerB).length := by rw [List.length_map]; exact hl.symm
   rw [hll]
   refine RunV.back Tryz.underlying107 Tryz.underlying5 Tryz.underlying9 hr ?_
   refine GO ?_
   exact ⟨rfl, hK⟩
theorem zhb (s : List UInt8) (hs : s.length ≤ 100000000) (w : World) : Calls Tryz.prog 69 #[.string (str s)] w fun e w' => e = .returned (.string (str (smallH s))) ∧ Kp w w' n_ := zeT _ (.inl rfl) (str s) hs w
theorem zbd (s : List UInt8) (hs : s.length ≤ 100000000) (w : World) : Calls Tryz.prog 73 #[.string (str s)] w fun e w' => e = .returned (.string (str (smallH s))) ∧ Kp w w' n_ := zeT _ (.inr (.inl rfl)) (str s) hs w
theorem zeB (s : List UInt8) (hs : s.length ≤ 100000000) (w : World) : Calls Tryz.prog 52 #[.string (str s)] w fun e w' => e = .returned (.string (str (smallH s))) ∧ Kp w w' n_ := zeT _ (.inr (.inr rfl)) (str s) hs w
theorem zft (old : List UInt8) : ∀ (k : Nat) (s : List UInt8), (Lib.replaceK old [] k s).length ≤ s.length
 | 0, s => Nat.le_refl _
 | k + 1, s => by
  unfold Lib.replaceK
  split
  ·exact Nat.le_refl _
  ·have := zft old k (s.drop ((Lib.index s old).toNat + old.length))
   rw [List.append_nil, List.length_append, List.length_take]
   rw [List.length_drop] at this
   omega
theorem zdj (s old : List UInt8) : (Lib.replaceAll s old []).length ≤ s.length := by
 unfold Lib.replaceAll Lib.replace
 split
 ·exact Nat.le_refl _
 ·exact zft _ _ _
theorem zdH (s : List UInt8) : (unfoldH s).length ≤ s.length := Nat.le_trans (zdj _ _) (zdj _ _)
theorem ziV (s : List UInt8) (hm : MaxL w) (hs : s.length ≤ 100000000) : Calls Tryz.prog 72 #[.string (str s)] w fun e w' => e = .returned (.string (str (unfoldH s))) ∧ Kp w w' n_ := by
 have h1 := zdj s [13, 10]
 unfold unfoldH
 refine zaa (args := [.string (str s)]) Tryz.func72 rfl NL ?_; refine GW ?_
 refine CallS.of (Tryz.call105 _ _) (zcI (str s) ⟨#[13, 10]⟩ w hm (by rw [zae]; omega) (by decide)) ?_
 rintro e w1 ⟨rfl, k1⟩
 rw [L_str, show L ⟨#[13, 10]⟩ = [13, 10] from rfl]
 refine RT ?_
 refine CallS.of (Tryz.call105 _ _) (zcI (str (Lib.replaceAll s [13, 10] [])) ⟨#[10]⟩ w1 (hm.keep k1) (by rw [zae]; omega) (by decide)) ?_
 rintro e w2 ⟨rfl, k2⟩
 refine RT ?_
 exact ⟨rfl, k1.trans0 k2⟩
end
end Go.Proofs.YtmjeacpoobbjjaaGreatDoor
namespace Go.Proofs.YtmjeacpoobbjjaaGreatDoor
open Go.RowKit Go.Pw Go.Vc Go.Cs Go.Lib
variable {w : World}
theorem zfQ {B b : Nat} {l : List UInt8} {w' : World} (h : Bld w B b l) (k : Kp w w' n_) : Bld w' B b l := by
 have key : ∀ p', BuilderAtF 122 5 B b p' (Lib.byteCells l) w → BuilderAtF 122 5 B b p' (Lib.byteCells l) w' := by
  rintro p' ⟨hB, v, hb, hown, hne⟩
  refine ⟨hB, v, (k.block b (zcY hb) id).trans hb, ?_, hne⟩
  refine hown.kept (row := none) ⟨k.os, k.tape, k.output, k.size, fun i hi _ => k.block i hi id⟩ ?_
  cases v.ownBlock <;> simp
 rcases h with h | h
 ·exact .inl (key _ h)
 ·exact .inr (key _ h)
end Go.Proofs.YtmjeacpoobbjjaaGreatDoor
namespace Go.Proofs.YtmjeacpoobbjjaaGreatDoor
open Go.Shelf Go.RowKit Go.Pw Go.Vc Go.Cs Go.Lib Go.Tk Go.Hd
section
variable {w : World}
theorem zed (l : List Tkn) (i : Nat) (h : i < l.length) : joinT (l.take (i + 1)) = joinT (l.take i) ++ l[i].2 := by
 unfold joinT
 rw [List.take_succ_eq_append_getElem h, List.flatMap_append, List.flatMap_singleton]
theorem zjL (l : List Tkn) (i : Nat) : (joinT (l.take i)).length ≤ (joinT l).length := by
 conv => rhs; rw [← List.take_append_drop i l]
 unfold joinT
 rw [List.flatMap_append, List.length_append]
 omega
theorem zeN {v : Value} (l : List Tkn) (hr : RowO w v tkC l) (hl : l.length ≤ 100000000) (hj : (joinT l).length ≤ 1000000000) : Calls Tryz.prog 78 #[v] w fun e w' => e = .returned (.string (str (joinT l))) ∧ Kp w w' n_ := by
 obtain ⟨a, cap, rfl, hr⟩ := hr
 refine zaa (args := [.slice a l.length cap]) Tryz.func78 rfl NL ?_; refine GW ?_
 have hb0 := zgi w w.heap.size (Nat.le_refl _)
 have K0 : Kp w (w.alloc (.cells #[.pointer none, .slice none 0 0] 122)) n_ := (Kp.refl _ _).alloc _
 generalize w.alloc (.cells #[.pointer none, .slice none 0 0] 122) = w0 at *
 refine Loop.intro (ι := Nat) (fun i => [(3, .pointer (some ⟨w.heap.size, 0, none⟩)), (6, .slice a l.length cap), (7, .int .i64 (l.length : Nat)), (8, .int .i64 (i : Nat))])
  (fun i wr => Kp w wr n_ ∧ i ≤ l.length ∧ Bld wr w.heap.size w.heap.size (joinT (l.take i))) (fun i => l.length - i) 0 ⟨rfl, rfl, rfl, rfl, trivial⟩
  ⟨K0, Nat.zero_le _, hb0⟩ ?_
 rintro i g wr ⟨hK, hi, hb⟩
 refine GW ?_
 by_cases hlt : i < l.length
 ·obtain ⟨gb, o, rfl, hgb, hat⟩ := hr (by omega)
  have hat := zar hat hK
  have q0 := Kp.refl wr n_
  refine KGO ?_
  obtain ⟨T, hT⟩ : ∃ T : Tkn, T = l[i] := ⟨_, rfl⟩
  have hsn := zed l i hlt
  have hle := zjL l (i + 1)
  rw [← hT] at hsn ⊢
  rw [hsn, List.length_append] at hle
  obtain ⟨a_b1, v_b1, k_w1, z_w1, r_w1⟩ := new5 wr 82 ([.int .i64 0, .string ⟨#[]⟩])
  generalize wr.alloc (.cells (List.toArray ([.int .i64 0, .string ⟨#[]⟩])) 82) = w1 at *
  generalize hs_b1 : wr.heap.size = b1 at *
  refine KGO ?_
  refine SVK (tkC T) v_b1 fun w3 v3 k3 => ?_
  have kr3 := zab k_w1 k3 (by omega)
  have hb3 := zfQ hb kr3
  have K3 := hK.trans0 kr3
  have a3 := v3.at
  have r3 := Kp.refl w3 n_
  refine KGO ?_
  refine CallS.of (Tryz.call109 _ _) (zbr (str T.2) w3 hb3 (by rw [zae]; omega) K3.size) ?_
  rintro e w4 ⟨rfl, hb4, hbe, _⟩
  refine RT ?_
  refine KGO ?_
  refine ⟨i + 1, ⟨rfl, rfl, rfl, v_int (by simp), trivial⟩, ⟨K3.below' hbe (Nat.le_refl _), by omega, ?_⟩, by dsimp only; omega⟩
  rw [hsn]; rw [L_str] at hb4; exact hb4
 ·refine KGO ?_
  have e : l.take i = l := List.take_of_length_le (by omega)
  rw [e] at hb
  refine CallS.of (Tryz.call110 _ _) (zcO wr hb hK.size) ?_
  rintro e w1 ⟨rfl, hb1, hbe, _⟩
  refine RT ?_
  exact ⟨rfl, hK.below' hbe (Nat.le_refl _)⟩
def u8C (c : UInt8) : List Value := [.int .u8 c.toNat]
theorem tyU8 : RowTy 107 5 u8C 1 1 := ⟨Tryz.underlying107, ⟨_, byteInfo, rfl⟩, by decide, fun _ => rfl, fun x u hu => by rw [List.mem_singleton.1 hu]; rfl⟩
theorem zjR (l : List UInt8) : l.flatMap u8C = Lib.byteCells l := by
 induction l with
 | nil => rfl
 | cons c l ih => rw [List.flatMap_cons, ih]; rfl
theorem bs1U8 (c : UInt8) (w : World) : (Instr.buildSlice 107 1 [(0, .int .u8 c.toNat)].toArray).run Tryz.prog w = .ok (.slice (some ⟨w.heap.size, 0, none⟩) 1 1) (w.alloc (.cells (List.toArray (u8C c)) 5)) := by
 simp [Instr.buildSlice, go_sem, Tryz.runUnderlying107, u8C]
structure BldX (w : World) (B b : Nat) (v : Value) (l : List UInt8) : Prop where
 hd : VarK w b 122 [.pointer none, v] ∨ VarK w b 122 [.pointer (some ⟨b, 0, none⟩), v]
 row : OwnR 5 u8C 1 w B v l
 ne : v.ownBlock ≠ some b
theorem BldX.keep {w w' : World} {B b : Nat} {v : Value} {l : List UInt8} {c : Nat → Prop} (h : BldX w B b v l) (k : Kp w w' c) (h1 : ¬ c b) (h2 : ∀ q, v.ownBlock = some q → ¬ c q) : BldX w' B b v l :=
 ⟨h.hd.elim (fun a => .inl (a.keep k h1)) (fun a => .inr (a.keep k h1)), zaf h.row k h2, h.ne⟩
theorem BldX.new (w : World) (B : Nat) : BldX (w.alloc (.cells #[.pointer none, .slice none 0 0] 122)) B w.heap.size (.slice none 0 0) [] :=
 ⟨.inl (VarK.new w 122 [.pointer none, .slice none 0 0]), World.ownsRow_nil _ _ _ _, by simp [Value.ownBlock]⟩
theorem BldX.bld {w : World} {B B' b : Nat} {v : Value} {l : List UInt8} (h : BldX w B b v l) (h1 : B' ≤ B) (h2 : B' ≤ b) : Bld w B' b l := by
 have hr : w.ownsRowF B' 5 1 v (Lib.byteCells l).length (Lib.byteCells l) := by
  have := World.ownsRowF_of (zan h.row h1)
  rw [zjR] at this
  rw [Lib.byteCells_length]; exact this
 rcases h.hd with a | a
 ·exact .inl ⟨h2, v, a, hr, h.ne⟩
 ·exact .inr ⟨h2, v, a, hr, h.ne⟩
theorem zkQ {B b : Nat} {v : Value} {l : List UInt8} (h : BldX w B b v l) : Calls Tryz.prog 143 #[.pointer (some ⟨b, 0, none⟩)] w fun e w' => e = .returned (.tuple #[]) ∧ VarK w' b 122 [.pointer (some ⟨b, 0, none⟩), v] ∧ BldX w' B b v l ∧ Kp w w' (one_ b) := by
 rcases h.hd with a | a
 ·have hsh : w.shape? b = some (122, 2) := by
   have a' : w.heap[b]? = some (.cells (List.toArray [.pointer none, v]) 122) := a
   simp [World.shape?, a']
  refine (Any.Builder_copyCheck_fresh { lays167 with } ext167.toX72 b w (a.at 0 _ rfl) hsh (a.frozen _)).mono fun e w' h' => ?_
  obtain ⟨rfl, rfl⟩ := h'
  have hv : VarK (w.setCell ⟨b, 0, none⟩ (.pointer (some ⟨b, 0, none⟩))) b 122 [.pointer (some ⟨b, 0, none⟩), v] := a.set 0 (.pointer (some ⟨b, 0, none⟩))
  have hk : Kp w (w.setCell ⟨b, 0, none⟩ (.pointer (some ⟨b, 0, none⟩))) (one_ b) := (Kp.refl w (one_ b)).setCell (p := ⟨b, 0, none⟩) (.inl rfl) _
  exact ⟨rfl, hv, ⟨.inr hv, zaf h.row hk fun q hq e => h.ne (by have e : q = b := e; rw [← e]; exact hq), h.ne⟩, hk⟩
 ·refine (Any.Builder_copyCheck_used { lays167 with } ext167.toX72 b w (a.at 0 _ rfl)).mono fun e w' h' => ?_
  obtain ⟨rfl, rfl⟩ := h'
  exact ⟨rfl, a, h, Kp.refl _ _⟩
theorem zds {B b : Nat} {v : Value} {l : List UInt8} (c : UInt8) (h : BldX w B b v l) (hl : l.length + 1 ≤ 140737488355328) (hB : B ≤ w.heap.size) :
  Calls Tryz.prog 167 #[.pointer (some ⟨b, 0, none⟩), .int .u8 c.toNat] w fun e w' => e = .returned .nilIface ∧ ∃ v', BldX w' B b v' (l ++ [c]) ∧ Kp w w' (fun q => q = b ∨ v.ownBlock = some q) := by
 obtain ⟨av, cv, rfl⟩ := zad h.row
 refine zaa (args := [.pointer (some ⟨b, 0, none⟩), .int .u8 c.toNat]) Tryz.func167 rfl NL ?_; refine GW ?_
 refine CallS.of (Tryz.call143 _ _) (zkQ h) ?_
 rintro e w1 ⟨rfl, hv1, h1, k1⟩
 refine RT ?_
 have a1 := hv1.at
 have q1 := Kp.refl w1 n_
 refine KGO ?_
 refine RunV.of (bs1U8 c _) ?_
 obtain ⟨a_b2, v_b2, k_w2, z_w2, r_w2⟩ := new5 w1 5 (u8C c)
 generalize w1.alloc (.cells (List.toArray (u8C c)) 5) = w2 at *
 generalize hs_b2 : w1.heap.size = b2 at *
 have hb1 : b < w1.heap.size := hv1.lt
 have hv2 := hv1.keep0 k_w2
 have h2 := h1.keep k_w2 (fun e => e) (fun q _ e => e)
 refine KGO ?_
 refine tyU8.app1 c h2.row (by have := k1.size; omega) a_b2 (by omega) (by omega) fun v3 w3 o3 k3 => ?_
 obtain ⟨a3, c3, rfl⟩ := zad o3
 have hv3 := hv2.keep k3 (fun e => h2.ne e)
 have hne : (Value.slice a3 (l ++ [c]).length c3).ownBlock ≠ some b := fun e => by
  obtain ⟨cs, z, hc, _⟩ := zah o3 e
  have hv3' : w3.heap[b]? = some (.cells (List.toArray [.pointer (some ⟨b, 0, none⟩), .slice av l.length cv]) 122) := hv3
  rw [hv3'] at hc
  injection hc with hc
  injection hc with _ hc
  exact absurd hc (by decide)
 refine KGO ?_
 refine Store.cellK (i := 1) hv3 (by simp) (by rfl) ⟨rfl, by simp, by simp⟩ fun w4 v4 k4 => ?_
 refine KGO ?_
 refine ⟨rfl, _, ⟨.inr v4, zaf o3 k4 fun q hq e => hne (by have e : q = b := e; rw [← e]; exact hq), hne⟩, ?_⟩
 exact (((k1.mono fun q _ e => .inl e).trans' k_w2.of_none).trans' (k3.mono fun q _ e => .inr e)).trans' (k4.mono fun q _ e => .inl e)
theorem zjY (t : Tkn) (ht : t.2.length ≤ 100000000) : Calls Tryz.prog 144 #[.agg (tkC t).toArray] w fun e w' => e = .returned (.string (str (valueT t))) ∧ Kp w w' n_ := by
 have hz := zae t.2
 refine zaa (args := [.agg (tkC t).toArray]) Tryz.func144 rfl NL ?_; refine GW ?_
 obtain ⟨a_b1, v_b1, k_w1, z_w1, r_w1⟩ := new5 w 82 (tkC t)
 generalize w.alloc (.cells (List.toArray (tkC t)) 82) = w1 at *
 generalize hs_b1 : w.heap.size = b1 at *
 have a1 := v_b1.at
 have q1 := Kp.refl w1 n_
 have hv : valueT t = if (t.1 ≠ 2 ∧ t.1 ≠ 3) ∨ t.2.length < 2 then t.2 else valF false ((t.2.drop 1).take (t.2.length - 2)) := rfl
 refine KGO ?_
 by_cases hn : t.2.length < 2
 ·rw [hv, if_pos (.inr hn)]
  by_cases h2 : t.1 = 2
  ·refine KGO ?_
   exact ⟨rfl, k_w1⟩
  ·by_cases h3 : t.1 = 3
   ·refine KGO ?_
    exact ⟨rfl, k_w1⟩
   ·refine KGO ?_
    exact ⟨rfl, k_w1⟩
 by_cases hk : t.1 ≠ 2 ∧ t.1 ≠ 3
 ·rw [hv, if_pos (.inl hk)]
  obtain ⟨h2, h3⟩ := hk
  refine KGO ?_
  exact ⟨rfl, k_w1⟩
 rw [hv, if_neg (by omega)]
 clear hv
 have hk2 : t.1 = 2 ∨ t.1 = 3 := by omega
 obtain ⟨M, hM⟩ : ∃ M, M = (t.2.drop 1).take (t.2.length - 2) := ⟨_, rfl⟩
 have hMl : M.length = t.2.length - 2 := by rw [hM, List.length_take, List.length_drop]; omega
 rw [← hM]
 have hex : (t.2.take (t.2.length - 1)).drop 1 = M := by rw [hM, List.drop_take]; congr 1
 rcases hk2 with h2 | h2
 all_goals
  refine KGO ?_
  have hb0 := BldX.new w1 (w1.heap.size + 2)
  have K2 : Kp w1 (w1.alloc (.cells #[.pointer none, .slice none 0 0] 122)) n_ := (Kp.refl _ _).alloc _
  have z2 : (w1.alloc (.cells #[.pointer none, .slice none 0 0] 122)).heap.size = w1.heap.size + 1 := by simp
  generalize w1.alloc (.cells #[.pointer none, .slice none 0 0] 122) = w2 at *
  have v2 := v_b1.keep0 K2
  have a2 := v2.at
  have q2 := Kp.refl w2 n_
  have K2w := k_w1.trans0 K2
  clear a1 q1 v_b1 a_b1 r_w1
  refine KGO ?_
  rw [show (((str t.2).size : Nat) : Int) - 1 = ((t.2.length - 1 : Nat) : Int) by rw [hz]; omega]
  refine Cut.both (l := 1) (h := t.2.length - 1) (by omega) (by omega) ?_
  refine GW ?_
  refine KGO ?_
  rw [zbc, hex]
  refine RunV.of (Lib.run_convert_string_bytes w2 _ _ 5 (str M) Tryz.underlying9 Tryz.underlying107 Tryz.underlying5) ?_
  refine KGO ?_
  have hMz : (str M).size = M.length := rfl
  obtain ⟨h0, K0⟩ := zbH w2 5 (str M)
  have hl3 : w2.heap.size < (Lib.bytesWorld w2 5 (str M)).heap.size := by rw [Lib.bytesWorld_size]; omega
  generalize grownCap w2 (str M).size 0 5 = cap at *
  generalize Lib.bytesWorld w2 5 (str M) = w3 at *
  rw [hMz]
  obtain ⟨bb, hbb⟩ : ∃ bb, bb = w1.heap.size := ⟨_, rfl⟩
  obtain ⟨mb, hmb⟩ : ∃ mb, mb = w2.heap.size := ⟨_, rfl⟩
  rw [← hbb] at hb0 z2 ⊢
  rw [← hmb] at h0 z2 ⊢
  have h0 : Bs w3 mb M := h0
  rw [← hmb] at hl3
  have hb3 := hb0.keep K0 (fun e => e) (fun q _ e => e)
  refine Loop.intro (ι := Nat × Bool × Value × List UInt8) (fun i => [(1, .pointer (some ⟨b1, 0, none⟩)), (3, .int .i64 (t.2.length : Nat)), (4, .pointer (some ⟨bb, 0, none⟩)), (5, .bool i.2.1), (30, .slice (some ⟨mb, 0, none⟩) M.length cap), (31, .int .i64 (M.length : Nat)), (32, .int .i64 (i.1 : Nat))])
   (fun i wr => Kp w2 wr (fun q => q = bb ∨ bb + 2 ≤ q) ∧ Bs wr mb M ∧ BldX wr (bb + 2) bb i.2.2.1 i.2.2.2 ∧ i.1 ≤ M.length ∧ i.2.2.2.length ≤ i.1 ∧ bb + 2 ≤ wr.heap.size ∧ i.2.2.2 ++ valF i.2.1 (M.drop i.1) = valF false M) (fun i => M.length - i.1) (0, false, .slice none 0 0, []) ⟨rfl, rfl, rfl, rfl, rfl, rfl, rfl, trivial⟩
   ⟨K0.of_none, h0, hb3, Nat.zero_le _, Nat.le_refl _, by omega, rfl⟩ ?_
  rintro ⟨i, esc, v, D⟩ g wr ⟨hK, hM0, hb, hi, hD, hsz, he⟩
  dsimp only at hb hi hD he ⊢
  refine GW ?_
  have wrt : ∀ (c : UInt8) (w' : World) (v' : Value), BldX w' (bb + 2) bb v' (D ++ [c]) → Kp wr w' (fun q => q = bb ∨ v.ownBlock = some q) → Kp w2 w' (fun q => q = bb ∨ bb + 2 ≤ q) ∧ Bs w' mb M ∧ bb + 2 ≤ w'.heap.size := fun c w' v' hb' k => by
   have k' : Kp wr w' (fun q => q = bb ∨ bb + 2 ≤ q) := k.mono fun q _ e => by
    rcases e with e | e
    ·exact .inl e
    ·obtain ⟨_, _, _, h3, _⟩ := zah hb.row e
     exact .inr h3
   have := k.size
   exact ⟨hK.trans' k', hM0.keep k' (by omega) (fun e => by rcases e with e | e <;> omega), by omega⟩
  by_cases hlt : i < M.length
  ·have hc := hM0.cell hlt
   have hdr : M.drop i = M.getD i 0 :: M.drop (i + 1) := by rw [List.drop_eq_getElem_cons hlt, List.getD_eq_getElem?_getD, List.getElem?_eq_getElem hlt]; rfl
   rw [hdr] at he
   generalize M.getD i 0 = c at *
   have q0 := Kp.refl wr n_
   cases esc
   ·have he1 : valF false (c :: M.drop (i + 1)) = if c = 92 then valF true (M.drop (i + 1)) else if c ≠ 10 ∧ c ≠ 13 then c :: valF false (M.drop (i + 1)) else valF false (M.drop (i + 1)) := by
     rw [valF]
    rw [he1] at he
    by_cases c1 : c = 92
    ·rw [if_pos c1] at he
     subst c1
     refine KGO ?_
     exact ⟨(i + 1, true, v, D), ⟨rfl, rfl, rfl, rfl, rfl, rfl, v_int (by simp), trivial⟩, ⟨hK, hM0, hb, hlt, by dsimp only; omega, hsz, he⟩, by dsimp only; omega⟩
    rw [if_neg c1] at he
    have n1 : ¬ (c.toNat : Int) = 92 := zaL c1
    by_cases c2 : c = 10
    ·rw [if_neg (fun e => e.1 c2)] at he
     subst c2
     refine KGO ?_
     exact ⟨(i + 1, false, v, D), ⟨rfl, rfl, rfl, rfl, rfl, rfl, v_int (by simp), trivial⟩, ⟨hK, hM0, hb, hlt, by dsimp only; omega, hsz, he⟩, by dsimp only; omega⟩
    have n2 : ¬ (c.toNat : Int) = 10 := zaL c2
    by_cases c3 : c = 13
    ·rw [if_neg (fun e => e.2 c3)] at he
     subst c3
     refine KGO ?_
     exact ⟨(i + 1, false, v, D), ⟨rfl, rfl, rfl, rfl, rfl, rfl, v_int (by simp), trivial⟩, ⟨hK, hM0, hb, hlt, by dsimp only; omega, hsz, he⟩, by dsimp only; omega⟩
    have n3 : ¬ (c.toNat : Int) = 13 := zaL c3
    rw [if_pos ⟨c2, c3⟩] at he
    refine KGO ?_
    refine CallS.of (Tryz.call167 _ _) (zds (w := wr) c hb (by omega) hsz) ?_
    rintro e w5 ⟨rfl, v5, hb5, k5⟩
    obtain ⟨K5, M5, z5⟩ := wrt c w5 v5 hb5 k5
    refine RT ?_
    refine KGO ?_
    exact ⟨(i + 1, false, v5, D ++ [c]), ⟨rfl, rfl, rfl, rfl, rfl, rfl, v_int (by simp), trivial⟩, ⟨K5, M5, hb5, hlt, by dsimp only; rw [List.length_append, List.length_singleton]; omega, z5, by dsimp only; rw [List.append_assoc]; exact he⟩, by dsimp only; omega⟩
   ·rw [valF] at he
    refine KGO ?_
    refine CallS.of (Tryz.call167 _ _) (zds (w := wr) c hb (by omega) hsz) ?_
    rintro e w5 ⟨rfl, v5, hb5, k5⟩
    obtain ⟨K5, M5, z5⟩ := wrt c w5 v5 hb5 k5
    refine RT ?_
    refine KGO ?_
    exact ⟨(i + 1, false, v5, D ++ [c]), ⟨rfl, rfl, rfl, rfl, rfl, rfl, v_int (by simp), trivial⟩, ⟨K5, M5, hb5, hlt, by dsimp only; rw [List.length_append, List.length_singleton]; omega, z5, by dsimp only; rw [List.append_assoc]; exact he⟩, by dsimp only; omega⟩
  ·have hdr : M.drop i = [] := List.drop_eq_nil_of_le (by omega)
   rw [hdr] at he
   have hv0 : valF esc [] = [] := by cases esc <;> rfl
   rw [hv0, List.append_nil] at he
   have KW : Kp w wr n_ := K2w.trans hK fun q hq e => by rcases e with e | e <;> omega
   refine KGO ?_
   refine CallS.of (Tryz.call110 _ _) (zcO (B := w.heap.size) wr (hb.bld (by omega) (by omega)) KW.size) ?_
   rintro e w5 ⟨rfl, _, hbe, _⟩
   refine RT ?_
   rw [he]
   exact ⟨rfl, KW.below' hbe (Nat.le_refl _)⟩
end
end Go.Proofs.YtmjeacpoobbjjaaGreatDoor
namespace Go.Ty
open Go Go.Cs Go.Tk Go.Hd
def digC (c : UInt8) : Bool := decide (48 ≤ c.toNat ∧ c.toNat ≤ 57)
theorem zgt : ∀ (l : List UInt8) (a : Nat), a ≤ valN l a
 | [], a => Nat.le_refl _
 | c :: r, a => Nat.le_trans (by omega) (zgt r (a * 10 + (c.toNat - 48)))
theorem parse10 : ∀ (l : List UInt8) (a : Nat), l.all digC = true → Lib.parseUint10 a l = .ok (valN l a) ∨ (Lib.parseUint10 a l = .range ∧ 1844674407370955162 ≤ valN l a)
 | [], a, _ => .inl rfl
 | c :: r, a, h => by
  rw [List.all_cons, Bool.and_eq_true] at h
  have hc : 48 ≤ c.toNat ∧ c.toNat ≤ 57 := of_decide_eq_true h.1
  have hge := zgt r (a * 10 + (c.toNat - 48))
  have ih := parse10 r (a * 10 + (c.toNat - 48)) h.2
  unfold Lib.parseUint10
  rw [if_pos hc]
  have hv : valN (c :: r) a = valN r (a * 10 + (c.toNat - 48)) := rfl
  rw [hv]
  by_cases h1 : 1844674407370955162 ≤ a
  ·rw [if_pos h1]; exact .inr ⟨rfl, by omega⟩
  rw [if_neg h1]
  by_cases h2 : 18446744073709551616 ≤ a * 10 + (c.toNat - 48)
  ·rw [if_pos h2]; exact .inr ⟨rfl, by omega⟩
  rw [if_neg h2]
  exact ih
theorem mag10 {l : List UInt8} (h : l.all digC = true) (hne : l ≠ []) : Lib.parseMag l = .ok (valN l 0) ∨ (Lib.parseMag l = .range ∧ 1844674407370955162 ≤ valN l 0) := by
 unfold Lib.parseMag
 rw [if_neg hne]
 exact parse10 l 0 h
theorem atoi_pos {l : List UInt8} (h : l.all digC = true) (hne : l ≠ []) : Lib.atoiAll l = .ok (valN l 0 : Nat) ∨ (Lib.atoiAll l = .range ∧ 64 ≤ valN l 0) := by
 obtain ⟨c, r, rfl⟩ := List.exists_cons_of_ne_nil hne
 have hc : 48 ≤ c.toNat ∧ c.toNat ≤ 57 := by
  rw [List.all_cons, Bool.and_eq_true] at h
  exact of_decide_eq_true h.1
 unfold Lib.atoiAll
 dsimp only
 rw [if_neg (by omega)]
 rcases mag10 h hne with e | ⟨e, hb⟩
 ·rw [e]
  dsimp only
  by_cases hb : 9223372036854775808 ≤ valN (c :: r) 0
  ·rw [if_pos ⟨by omega, hb⟩]; exact .inr ⟨rfl, by omega⟩
  ·rw [if_neg (fun e => hb e.2), if_neg (fun e => absurd e.1 (by omega)), if_neg (by omega)]; exact .inl rfl
 ·rw [e]; exact .inr ⟨rfl, by omega⟩
theorem atoi_neg {l : List UInt8} (h : l.all digC = true) (hne : l ≠ []) : Lib.atoiAll (45 :: l) = .ok (-(valN l 0 : Nat)) ∨ Lib.atoiAll (45 :: l) = .range := by
 unfold Lib.atoiAll
 dsimp only
 rw [if_pos (by decide)]
 rcases mag10 h hne with e | ⟨e, hb⟩
 ·rw [e]
  dsimp only
  rw [if_neg (fun e => e.1 (by decide))]
  by_cases hb : 9223372036854775808 < valN l 0
  ·rw [if_pos ⟨by decide, hb⟩]; exact .inr rfl
  ·rw [if_neg (fun e => hb e.2), if_pos (by decide)]; exact .inl rfl
 ·rw [e]; exact .inr rfl
theorem zjK {s : List UInt8} (h1 : s.all digC = true) (h2 : s ≠ []) (h3 : s.head? = some 48 → s = [48]) : numC s = if valN s 0 ≤ 63 then some (valN s 0) else none := by
 unfold numC
 have h1 : s.all (fun c => decide (48 ≤ c.toNat ∧ c.toNat ≤ 57)) = true := h1
 by_cases h : valN s 0 ≤ 63
 ·rw [if_pos ⟨h1, h2, h3, h⟩, if_pos h]
 ·rw [if_neg (fun e => h e.2.2.2), if_neg h]
theorem zeI {s : List UInt8} (h : s.all digC = false ∨ s = [] ∨ (s.head? = some 48 ∧ s ≠ [48])) : numC s = none := by
 unfold numC
 rw [if_neg]
 rintro ⟨h1, h2, h3, _⟩
 rcases h with h | h | h
 ·have h1 : s.all digC = true := h1
  rw [h1] at h; cases h
 ·exact h2 h
 ·exact h.2 (h3 h.1)
theorem zlz (b : UInt8) (t : List UInt8) : (digC b = true ∧ Lib.decodeL (b :: t) = (b.toNat, 1)) ∨ (digC b = false ∧ ¬ (48 ≤ (Lib.decodeL (b :: t)).1 ∧ (Lib.decodeL (b :: t)).1 ≤ 57)) := by
 by_cases h : b.toNat < 128
 ·rw [Lib.decodeL_ascii b t h]
  by_cases hd : 48 ≤ b.toNat ∧ b.toNat ≤ 57
  ·exact .inl ⟨decide_eq_true hd, rfl⟩
  ·exact .inr ⟨decide_eq_false hd, hd⟩
 ·refine .inr ⟨decide_eq_false (by omega), ?_⟩
  rcases dec_whole (b :: t) (by simp) with e | ⟨h1, h2, h3, h4⟩
  ·rw [e]; decide
  ·rintro ⟨a1, a2⟩
   have e1 := enc1 (show (Lib.decodeL (b :: t)).1 < 128 by omega)
   rw [e1] at h2 h3
   rw [h3] at h2
   have : b = (Lib.decodeL (b :: t)).1.toUInt8 := by simpa using h2
   rw [this] at h
   have hx : ((Lib.decodeL (b :: t)).1.toUInt8).toNat = (Lib.decodeL (b :: t)).1 % 256 := UInt8.toNat_ofNat'
   omega
end Go.Ty
