/- Helper lemmas that the proved statement rests on; no conditions of their own. -/
import Derived.Test.YtmjeacpoobbjjaaGreatDoorGCd0
set_option linter.unusedVariables false
set_option maxHeartbeats 4000000
set_option maxRecDepth 100000
namespace Go.Proofs.YtmjeacpoobbjjaaGreatDoor
open Go.Shelf Go.RowKit Go.Pw Go.Vc Go.Cs Go.Lib Go.Tk Go.Hd
abbrev OwnTk (w : World) (B : Nat) (v : Value) (l : List Tkn) : Prop := OwnR 82 tkC 2 w B v l
theorem zbQ {c : UInt8} {r : List UInt8} : ¬ str (c :: r) = ⟨#[]⟩ := fun h => by
 have := congrArg ByteArray.size h
 rw [zae] at this
 cases this
section
variable {w : World}
theorem zeP (s : List UInt8) (hs : s.length ≤ 100000000) (w : World) : Calls Tryz.prog 51 #[.string (str s)] w fun e w' => ∃ v, e = .returned v ∧ OwnTk w' w.heap.size v (scanT s) ∧ Kp w w' n_ := by
 refine zaa (args := [.string (str s)]) Tryz.func51 rfl NL ?_; refine GW ?_
 refine Loop.intro (ι := List UInt8 × Value × List Tkn) (fun i => [(0, .string (str i.1)), (2, i.2.1)])
  (fun i wr => Kp w wr n_ ∧ OwnTk wr w.heap.size i.2.1 i.2.2 ∧ i.2.2 ++ scanT i.1 = scanT s ∧ i.1.length ≤ s.length ∧ i.2.2.length + i.1.length ≤ s.length) (fun i => i.1.length) (s, .slice none 0 0, []) ⟨rfl, rfl, trivial⟩ ⟨Kp.refl _ _, World.ownsRow_nil _ _ _ _, rfl, Nat.le_refl _, by simp⟩ ?_
 rintro ⟨u, v, D⟩ g wr ⟨hK, ho, he, hl, hn⟩
 dsimp only at ho he hl hn ⊢
 obtain ⟨av, cv, rfl⟩ := zad ho
 cases u with
 | nil =>
  refine GW ?_
  rw [show decide (str [] = ⟨#[]⟩) = true from rfl]
  refine KGO ?_
  rw [zjj, List.append_nil] at he
  exact ⟨_, rfl, he ▸ ho, hK⟩
 | cons c r =>
  refine GW ?_
  rw [decide_eq_false zbQ]
  refine KGO ?_
  obtain ⟨a_b1, v_b1, k_w1, z_w1, r_w1⟩ := new5 wr 82 ([.int .i64 0, .string ⟨#[]⟩])
  generalize wr.alloc (.cells (List.toArray ([.int .i64 0, .string ⟨#[]⟩])) 82) = w1 at *
  generalize hs_b1 : wr.heap.size = b1 at *
  have o1 := zai ho k_w1
  refine KGO ?_
  rw [List.length_cons] at hl hn
  refine CallS.of (Tryz.call81 _ _) (zki (w := w1) c r (by omega)) ?_
  rintro e w2 ⟨rfl, k2⟩
  have v2 := v_b1.keep0 k2
  have o2 := zai o1 k2
  have K2 := (hK.trans0 k_w1).trans0 k2
  refine RT ?_
  rw [zhQ (by simp : c :: r ≠ [])] at he
  have hfl := zcj c r
  generalize frontT (c :: r) = F at *
  obtain ⟨fk, fn⟩ := F
  dsimp only at he hfl ⊢
  obtain ⟨T, hT⟩ : ∃ T : Tkn, T = (fk, (c :: r).take fn) := ⟨_, rfl⟩
  have hd : ((c :: r).drop fn).length = r.length + 1 - fn := by rw [List.length_drop, List.length_cons]
  rw [← hT] at he
  rw [show (Value.agg #[.int .i64 (fk : Nat), .string (str ((c :: r).take fn))]) = .agg (tkC T).toArray by rw [hT]; rfl]
  generalize (c :: r).drop fn = U at *
  refine KGO ?_
  refine SVK (tkC T) v2 fun w3 v3 k3 => ?_
  have o3 : OwnTk w3 w.heap.size _ D := zaf o2 k3 fun q hq e => by
   obtain ⟨_, _, _, _, h4⟩ := zah ho hq
   have : q = b1 := e
   omega
  have K3 := zab K2 k3 (by have := hK.size; omega)
  have a3 := v3.at
  have r3 := Kp.refl w3 n_
  refine KGO ?_
  refine RunV.of (bs1Tk T _) ?_
  obtain ⟨a_b4, v_b4, k_w4, z_w4, r_w4⟩ := new5 w3 82 (tkC T)
  generalize w3.alloc (.cells (List.toArray (tkC T)) 82) = w4 at *
  generalize hs_b4 : w3.heap.size = b4 at *
  have o4 := zai o3 k_w4
  have K4 := K3.trans0 k_w4
  refine KGO ?_
  refine tyTk.app1 T o4 (by have := K4.size; omega) a_b4 (by omega) (by omega) fun v5 w5 o5 k5 => ?_
  have K5 := zij o4 k5 w K4 (Nat.le_refl _)
  obtain ⟨a5, c5, rfl⟩ := zad o5
  refine GW ?_
  refine ⟨(U, .slice a5 (D ++ [T]).length c5, D ++ [T]), ⟨rfl, rfl, trivial⟩, ⟨K5, o5, ?_, by dsimp only; omega, ?_⟩, by dsimp only [List.length_cons]; omega⟩
  ·dsimp only; rw [← he, List.append_assoc]; rfl
  ·dsimp only; rw [List.length_append, List.length_singleton]; omega
theorem zeM {v : Value} (l : List Tkn) (hr : RowO w v tkC l) (hl : l.length ≤ 100000000) : Calls Tryz.prog 50 #[v] w fun e w' => ∃ v', e = .returned v' ∧ OwnTk w' w.heap.size v' (bareT l) ∧ Kp w w' n_ := by
 obtain ⟨a, cap, rfl, hr⟩ := hr
 refine zaa (args := [.slice a l.length cap]) Tryz.func50 rfl NL ?_; refine GW ?_
 refine Loop.intro (ι := Nat × Value) (fun i => [(2, i.2), (5, .slice a l.length cap), (6, .int .i64 (l.length : Nat)), (7, .int .i64 (i.1 : Nat))])
  (fun i wr => Kp w wr n_ ∧ OwnTk wr w.heap.size i.2 (bareT (l.take i.1)) ∧ i.1 ≤ l.length) (fun i => l.length - i.1) (0, .slice none 0 0) ⟨rfl, rfl, rfl, rfl, trivial⟩ ⟨Kp.refl _ _, World.ownsRow_nil _ _ _ _, Nat.zero_le _⟩ ?_
 rintro ⟨i, v⟩ g wr ⟨hK, ho, hi⟩
 dsimp only at ho hi ⊢
 obtain ⟨av, cv, rfl⟩ := zad ho
 refine GW ?_
 by_cases hlt : i < l.length
 ·obtain ⟨gb, o, rfl, hgb, hat⟩ := hr (by omega)
  have hat := zar hat hK
  have q0 := Kp.refl wr n_
  have hbl : bareT (l.take (i + 1)) = bareT (l.take i) ++ (if l[i].1 != 6 && l[i].1 != 3 then [l[i]] else []) := by
   unfold bareT
   rw [List.take_succ_eq_append_getElem hlt, List.filter_append, List.filter_cons]
   rfl
  have hbn : (bareT (l.take i)).length ≤ i := by
   have := List.length_filter_le (fun t : Tkn => t.1 != 6 && t.1 != 3) (l.take i)
   rw [List.length_take] at this
   unfold bareT; omega
  refine KGO ?_
  obtain ⟨T, hT⟩ : ∃ T : Tkn, T = l[i] := ⟨_, rfl⟩
  rw [← hT] at hbl ⊢
  obtain ⟨a_b1, v_b1, k_w1, z_w1, r_w1⟩ := new5 wr 82 ([.int .i64 0, .string ⟨#[]⟩])
  generalize wr.alloc (.cells (List.toArray ([.int .i64 0, .string ⟨#[]⟩])) 82) = w1 at *
  generalize hs_b1 : wr.heap.size = b1 at *
  have o1 := zai ho k_w1
  refine KGO ?_
  refine SVK (tkC T) v_b1 fun w3 v3 k3 => ?_
  have o3 : OwnTk w3 w.heap.size _ (bareT (l.take i)) := zaf o1 k3 fun q hq e => by
   obtain ⟨_, _, _, _, h4⟩ := zah ho hq
   have : q = b1 := e
   omega
  have K3 := zab (hK.trans0 k_w1) k3 (by have := hK.size; omega)
  have a3 := v3.at
  have r3 := Kp.refl w3 n_
  by_cases h6 : T.1 = 6
  ·have hbl : bareT (l.take (i + 1)) = bareT (l.take i) := by rw [hbl, h6]; simp
   refine KGO ?_
   exact ⟨(i + 1, _), ⟨rfl, rfl, rfl, v_int (by simp), trivial⟩, ⟨K3, by dsimp only; rw [hbl]; exact o3, hlt⟩, by dsimp only; omega⟩
  by_cases h3 : T.1 = 3
  ·have hbl : bareT (l.take (i + 1)) = bareT (l.take i) := by rw [hbl, h3]; simp
   refine KGO ?_
   exact ⟨(i + 1, _), ⟨rfl, rfl, rfl, v_int (by simp), trivial⟩, ⟨K3, by dsimp only; rw [hbl]; exact o3, hlt⟩, by dsimp only; omega⟩
  have hbl : bareT (l.take (i + 1)) = bareT (l.take i) ++ [T] := by rw [hbl, if_pos]; simp [h6, h3]
  refine KGO ?_
  refine RunV.of (bs1Tk T _) ?_
  obtain ⟨a_b4, v_b4, k_w4, z_w4, r_w4⟩ := new5 w3 82 (tkC T)
  generalize w3.alloc (.cells (List.toArray (tkC T)) 82) = w4 at *
  generalize hs_b4 : w3.heap.size = b4 at *
  have o4 := zai o3 k_w4
  have K4 := K3.trans0 k_w4
  refine KGO ?_
  refine tyTk.app1 T o4 (by have := K4.size; omega) a_b4 (by omega) (by omega) fun v5 w5 o5 k5 => ?_
  have K5 := zij o4 k5 w K4 (Nat.le_refl _)
  obtain ⟨a5, c5, rfl⟩ := zad o5
  refine KGO ?_
  exact ⟨(i + 1, _), ⟨rfl, rfl, rfl, v_int (by simp), trivial⟩, ⟨K5, by dsimp only; rw [hbl]; exact o5, hlt⟩, by dsimp only; omega⟩
 ·refine KGO ?_
  have e : l.take i = l := List.take_of_length_le (by omega)
  rw [e] at ho ⊢
  exact ⟨_, rfl, ho, hK⟩
end
def fdC (f : Fld) : List Value := [.string (str f.name), .string (str f.value), .string (str f.raw), .bool f.bad]
theorem lenFd (f : Fld) : (fdC f).length = 4 := rfl
theorem fdInfo : (Tryz.prog.info? 64).map (fun i => (i.zero, i.size, i.bytes)) = some (some (.agg #[.string ⟨#[]⟩, .string ⟨#[]⟩, .string ⟨#[]⟩, .bool false]), 4, 56) := by kernel_rfl
theorem tyFd : RowTy 32 64 fdC 4 56 := ⟨Tryz.underlying32, ⟨_, fdInfo, rfl⟩, by decide, lenFd, fun x => List.all_eq_true.1 (by rfl)⟩
theorem bs1Fd (f : Fld) (w : World) : (Instr.buildSlice 32 1 [(0, .agg (fdC f).toArray)].toArray).run Tryz.prog w = .ok (.slice (some ⟨w.heap.size, 0, none⟩) 1 1) (w.alloc (.cells (List.toArray (fdC f)) 64)) := by
 simp [Instr.buildSlice, go_sem, Tryz.runUnderlying32, fdC]
theorem zfB (r : ByteArray) (w : World) : (Instr.build 64 [(2, .string r), (3, .bool true)].toArray).run Tryz.prog w = .ok (.agg #[.string ⟨#[]⟩, .string ⟨#[]⟩, .string r, .bool true]) w := by
 simp [Instr.build, go_sem, Tryz.runUnderlying64]
theorem zir (a b r : ByteArray) (w : World) : (Instr.build 64 [(0, .string a), (1, .string b), (2, .string r)].toArray).run Tryz.prog w = .ok (.agg #[.string a, .string b, .string r, .bool false]) w := by
 simp [Instr.build, go_sem, Tryz.runUnderlying64]
section
variable {w : World}
theorem zis (s : List UInt8) (hs : s.length ≤ 1000000000) (w : World) : Calls Tryz.prog 40 #[.string (str s)] w fun e w' => e = .returned (.int .i64 (endH s : Nat)) ∧ Kp w w' n_ := by
 have hz := zae s
 refine zaa (args := [.string (str s)]) Tryz.func40 rfl NL ?_; refine GW ?_
 refine CallS.of (Tryz.call63 _ _) (zaG (str s) 10 w) ?_
 rintro e w1 ⟨rfl, rfl⟩
 refine RT ?_
 rw [L_str]
 rcases end_idx s with ⟨h1, h2⟩ | ⟨n, h1, h2, h3⟩
 ·refine KGO ?_
  exact ⟨by rw [h2, hz], Kp.refl _ _⟩
 ·rw [h1]
  refine KGO ?_
  exact ⟨by rw [h2]; rfl, Kp.refl _ _⟩
theorem zgh (s : List UInt8) (hs : s.length ≤ 1000000000) (w : World) : Calls Tryz.prog 41 #[.string (str s)] w fun e w' => e = .returned (.string (str (bareH s))) ∧ Kp w w' n_ := by
 have hz := zae s
 unfold bareH
 refine zaa (args := [.string (str s)]) Tryz.func41 rfl NL ?_; refine GW ?_
 refine CallS.of (Tryz.call64 _ _) (zda (str s) ⟨#[10]⟩ w (by omega)) ?_
 rintro e w1 ⟨rfl, rfl⟩
 refine RT ?_
 rw [L_str, show L ⟨#[10]⟩ = [10] from rfl]
 cases hc : hasSuffix s [10]
 ·refine KGO ?_
  exact ⟨rfl, Kp.refl _ _⟩
 ·have hl : (trimSuffix s [10]).length ≤ s.length := by unfold trimSuffix; split <;> simp
  refine KGO ?_
  refine CallS.of (Tryz.call65 _ _) (zcK (str (trimSuffix s [10])) ⟨#[13]⟩ w (by rw [zae]; omega)) ?_
  rintro e w1 ⟨rfl, rfl⟩
  refine RT ?_
  exact ⟨rfl, Kp.refl _ _⟩
theorem zlt (s : List UInt8) (w : World) : Calls Tryz.prog 42 #[.string (str s)] w fun e w' => e = .returned (.bool (goesH s)) ∧ Kp w w' n_ := by
 cases s with
 | nil =>
  refine zaa (args := [.string (str [])]) Tryz.func42 rfl NL ?_; refine GW ?_
  rw [show decide (str [] = ⟨#[]⟩) = true from rfl]
  refine KGO ?_
  exact ⟨rfl, Kp.refl _ _⟩
 | cons c r =>
  have hz : (str (c :: r)).size = r.length + 1 := rfl
  refine zaa (args := [.string (str (c :: r))]) Tryz.func42 rfl NL ?_; refine GW ?_
  rw [decide_eq_false zbQ]
  refine KGO ?_
  rw [show byteAt (str (c :: r)) 0 = c from rfl]
  refine CallS.of (Tryz.call63 _ _) (zaG ⟨#[32, 9]⟩ c w) ?_
  rintro e w1 ⟨rfl, rfl⟩
  refine RT ?_
  refine KGO ?_
  refine ⟨?_, Kp.refl _ _⟩
  have hx := zgZ [32, 9] c
  rw [show L ⟨#[32, 9]⟩ = [32, 9] from rfl]
  have e : goesH (c :: r) = ([32, 9] : List UInt8).contains c := by
   show (c == 32 || c == 9) = _
   show _ = List.elem c [32, 9]
   simp only [List.elem]
   cases (c == 32) <;> cases (c == 9) <;> rfl
  rw [e]
  cases hc : ([32, 9] : List UInt8).contains c
  ·rw [decide_eq_false]; intro h; rw [hx.1 h] at hc; cases hc
  ·rw [decide_eq_true (hx.2 hc)]
def okH (c : UInt8) : Bool := decide (32 < c.toNat) && decide (c.toNat ≤ 126) && c != 58
theorem zjD (s : List UInt8) (hs : s.length ≤ 1000000000) (w : World) : Calls Tryz.prog 68 #[.string (str s)] w fun e w' => e = .returned (.bool (rightH s)) ∧ Kp w w' n_ := by
 have hz := zae s
 have hrd : rightH s = (s.all okH && !s.isEmpty) := rfl
 refine zaa (args := [.string (str s)]) Tryz.func68 rfl NL ?_; refine GW ?_
 rw [hz]
 refine Loop.intro (ι := Nat) (fun i => [(0, .string (str s)), (6, .int .i64 (s.length : Nat)), (7, .int .i64 (i : Nat))])
  (fun i wr => Kp w wr n_ ∧ i ≤ s.length ∧ (s.take i).all okH = true) (fun i => s.length - i) 0 ⟨rfl, rfl, rfl, trivial⟩ ⟨Kp.refl _ _, Nat.zero_le _, rfl⟩ ?_
 rintro i g wr ⟨hK, hi, hp⟩
 refine GW ?_
 by_cases hlt : i < s.length
 ·refine KGO ?_
  have hno : okH s[i] = false → rightH s = false := fun h => by rw [hrd, zjg hlt (by rw [h]; simp)]; rfl
  have hst := zfa hlt hp
  rw [zbk hlt]
  generalize s[i] = c at *
  by_cases h1 : 32 < c.toNat
  ·by_cases h2 : c.toNat ≤ 126
   ·by_cases h3 : c = 58
    ·subst h3
     refine LGO ?_
     exact ⟨by rw [hno rfl], hK⟩
    ·have n3 : ¬ (c.toNat : Int) = 58 := zaL h3
     refine KGO ?_
     exact ⟨i + 1, ⟨rfl, rfl, v_int (by simp), trivial⟩, ⟨hK, hlt, hst (by unfold okH; simp [h1, h2, h3])⟩, by dsimp only; omega⟩
   ·refine KGO ?_
    exact ⟨by rw [hno (by unfold okH; simp [h2])], hK⟩
  ·refine KGO ?_
   exact ⟨by rw [hno (by unfold okH; simp [h1])], hK⟩
 ·rw [List.take_of_length_le (by omega)] at hp
  refine KGO ?_
  refine ⟨?_, hK⟩
  rw [hrd, hp]
  cases s with
  | nil => rfl
  | cons c r => rw [decide_eq_false zbQ]; rfl
end
section
variable {w : World}
abbrev OwnFd (w : World) (B : Nat) (v : Value) (l : List Fld) : Prop := OwnR 64 fdC 4 w B v l
theorem zjM (s : List UInt8) (hm : MaxL w) (hs : s.length ≤ 1000000000) : Calls Tryz.prog 43 #[.string (str s)] w fun e w' => e = .returned (.agg (fdC (fieldH s)).toArray) ∧ Kp w w' n_ := by
 have hz := zae s
 have hel := zbw s
 refine zaa (args := [.string (str s)]) Tryz.func43 rfl NL ?_; refine GW ?_
 obtain ⟨a_b1, v_b1, k_w1, z_w1, r_w1⟩ := new5 w 64 ([.string ⟨#[]⟩, .string ⟨#[]⟩, .string ⟨#[]⟩, .bool false])
 generalize w.alloc (.cells (List.toArray ([.string ⟨#[]⟩, .string ⟨#[]⟩, .string ⟨#[]⟩, .bool false])) 64) = w1 at *
 generalize hs_b1 : w.heap.size = b1 at *
 refine KGO ?_
 refine CallS.of (Tryz.call40 _ _) (zis s hs w1) ?_
 rintro e w2 ⟨rfl, k2⟩
 refine RT ?_
 refine KGO ?_
 rw [zaV]
 obtain ⟨F, hF⟩ : ∃ F, F = s.take (endH s) := ⟨_, rfl⟩
 have hfl : F.length ≤ s.length := by rw [hF, List.length_take]; omega
 rw [← hF]
 refine CallS.of (Tryz.call41 _ _) (zgh F (by omega) w2) ?_
 rintro e w3 ⟨rfl, k3⟩
 refine RT ?_
 have hbl := zcp F
 have K3 := (k_w1.trans0 k2).trans0 k3
 have v3 := (v_b1.keep0 k2).keep0 k3
 refine CallS.of (Tryz.call66 _ _) (s_cut (str (bareH F)) ⟨#[58]⟩ w3 (hm.keep K3) (by rw [zae]; omega)) ?_
 rintro e w4 ⟨rfl, k4⟩
 refine RT ?_
 have K4 := K3.trans0 k4
 have v4 := v3.keep0 k4
 rw [L_str, show L ⟨#[58]⟩ = [58] from rfl]
 have hc1 := zdK (bareH F) [58]
 have hc2 := fun h => ziz (s := bareH F) (p := [58]) h
 have hfd : fieldH s = if (Lib.cut (bareH F) [58]).2.2 = true ∧ rightH (Lib.trimRightS (Lib.cut (bareH F) [58]).1 [32, 9]) = true then
  ⟨Lib.trimRightS (Lib.cut (bareH F) [58]).1 [32, 9], bareH (s.drop ((Lib.cut (bareH F) [58]).1.length + 1)), s, false⟩ else ⟨[], [], s, true⟩ := by rw [hF]; rfl
 generalize Lib.cut (bareH F) [58] = C at *
 obtain ⟨C1, C2, C3⟩ := C
 dsimp only at hc1 hc2 hfd ⊢
 rw [hfd]
 refine KGO ?_
 rw [show (str C1).size = C1.length from rfl]
 refine KGO ?_
 refine CallS.of (Tryz.call67 _ _) (zgz (str C1) w4 (by rw [zae]; omega)) ?_
 rintro e w5 ⟨rfl, k5⟩
 refine RT ?_
 have K5 := K4.trans0 k5
 have v5 := v4.keep0 k5
 rw [L_str]
 have hN := zeL C1 [32, 9]
 generalize Lib.trimRightS C1 [32, 9] = N at *
 have hb1 : w.heap.size ≤ b1 := by omega
 cases C3
 ·rw [if_neg (by simp)]
  refine KGO ?_
  refine RunV.of (zfB (str s) _) ?_
  refine KGO ?_
  refine Store.varK [.string ⟨#[]⟩, .string ⟨#[]⟩, .string (str s), .bool true] v5 (by rfl) rfl (zaB (by rfl)) fun w6 v6 k6 => ?_
  have a6 := v6.at
  have r6 := Kp.refl w6 n_
  refine KGO ?_
  refine GW ?_
  exact ⟨rfl, zab K5 k6 hb1⟩
 ·have hc2 := hc2 rfl
  rw [List.length_singleton] at hc2
  refine KGO ?_
  refine CallS.of (Tryz.call68 _ _) (zjD N (by omega) w5) ?_
  rintro e w6 ⟨rfl, k6⟩
  refine RT ?_
  have K6 := K5.trans0 k6
  have v6 := v5.keep0 k6
  cases hR : rightH N
  ·rw [if_neg (by simp)]
   refine KGO ?_
   refine RunV.of (zfB (str s) _) ?_
   refine KGO ?_
   refine Store.varK [.string ⟨#[]⟩, .string ⟨#[]⟩, .string (str s), .bool true] v6 (by rfl) rfl (zaB (by rfl)) fun w7 v7 k7 => ?_
   have a7 := v7.at
   have r7 := Kp.refl w7 n_
   refine KGO ?_
   refine GW ?_
   exact ⟨rfl, zab K6 k7 hb1⟩
  ·rw [if_pos ⟨rfl, rfl⟩]
   refine KGO ?_
   rw [show ((C1.length : Nat) : Int) + 1 = ((C1.length + 1 : Nat) : Int) from rfl]
   refine KGO ?_
   rw [zav]
   have hdl : (s.drop (C1.length + 1)).length ≤ s.length := by rw [List.length_drop]; omega
   refine CallS.of (Tryz.call41 _ _) (zgh (s.drop (C1.length + 1)) (by omega) w6) ?_
   rintro e w7 ⟨rfl, k7⟩
   refine RT ?_
   have K7 := K6.trans0 k7
   have v7 := v6.keep0 k7
   generalize bareH (s.drop (C1.length + 1)) = V at *
   refine RunV.of (zir (str N) (str V) (str s) _) ?_
   refine KGO ?_
   refine Store.varK [.string (str N), .string (str V), .string (str s), .bool false] v7 (by rfl) rfl (zaB (by rfl)) fun w8 v8 k8 => ?_
   have a8 := v8.at
   have r8 := Kp.refl w8 n_
   refine KGO ?_
   refine GW ?_
   exact ⟨rfl, zab K7 k8 hb1⟩
end
section
variable {w : World}
theorem zhe (s : List UInt8) (hm : MaxL w) (hs : s.length ≤ 100000000) : Calls Tryz.prog 28 #[.string (str s)] w fun e w' => ∃ v, e = .returned (.tuple #[v, .int .i64 ((parH s).2 : Nat)]) ∧ OwnFd w' w.heap.size v (parH s).1 ∧ Kp w w' n_ := by
 have hz := zae s
 refine zaa (args := [.string (str s)]) Tryz.func28 rfl NL ?_; refine GW ?_
 refine Loop.intro (ι := Nat × Value × List Fld) (fun i => [(0, .string (str s)), (4, i.2.1), (5, .int .i64 (i.1 : Nat))])
  (fun i wr => Kp w wr n_ ∧ OwnFd wr w.heap.size i.2.1 i.2.2 ∧ i.2.2 ++ (parG (s.drop i.1) i.1).1 = (parH s).1 ∧ (parG (s.drop i.1) i.1).2 = (parH s).2 ∧ i.1 ≤ s.length ∧ i.2.2.length ≤ i.1) (fun i => s.length - i.1) (0, .slice none 0 0, []) ⟨rfl, rfl, rfl, trivial⟩ ⟨Kp.refl _ _, World.ownsRow_nil _ _ _ _, rfl, rfl, Nat.zero_le _, Nat.le_refl _⟩ ?_
 rintro ⟨o, v, D⟩ g wr ⟨hK, ho, he1, he2, hi, hn⟩
 dsimp only at ho he1 he2 hi hn ⊢
 obtain ⟨av, cv, rfl⟩ := zad ho
 refine GW ?_
 by_cases hlt : o < s.length
 ·obtain ⟨u, hu⟩ : ∃ u, u = s.drop o := ⟨_, rfl⟩
  have hul : u.length = s.length - o := by rw [hu, List.length_drop]
  have hun : u ≠ [] := fun h => by rw [h] at hul; simp at hul; omega
  rw [← hu] at he1 he2
  have hel := zbw u
  have hep := zbu hun
  refine KGO ?_
  rw [zav, ← hu]
  refine CallS.of (Tryz.call40 _ _) (zis u (by omega) wr) ?_
  rintro e w2 ⟨rfl, k2⟩
  refine RT ?_
  have ho := zai ho k2
  have hK := hK.trans0 k2
  refine KGO ?_
  rw [show ((o : Nat) : Int) + ((endH u : Nat) : Int) = ((o + endH u : Nat) : Int) from rfl]
  refine KGO ?_
  rw [zbc, show (s.take (o + endH u)).drop o = u.take (endH u) by rw [hu, List.drop_take]; congr 1; omega]
  refine CallS.of (Tryz.call41 _ _) (zgh (u.take (endH u)) (by rw [List.length_take]; omega) w2) ?_
  rintro e w3 ⟨rfl, k3⟩
  have ho := zai ho k3
  have hK := hK.trans0 k3
  by_cases hb : bareH (u.take (endH u)) = []
  ·rw [hb]
   refine RT ?_
   rw [show decide (str [] = ⟨#[]⟩) = true from rfl]
   refine KGO ?_
   rw [zjQ hun hb] at he1 he2
   rw [List.append_nil] at he1
   rw [← he2, ← he1]
   exact ⟨_, rfl, ho, hK⟩
  ·rw [ziH hun hb] at he1 he2
   obtain ⟨bc, br, hbe⟩ := List.exists_cons_of_ne_nil hb
   rw [hbe]
   refine RT ?_
   rw [decide_eq_false zbQ]
   refine KGO ?_
   have hll := ziQ u
   have hlp := zeG hun
   refine Loop.intro (ι := Nat) (fun i => [(0, .string (str s)), (4, .slice av D.length cv), (5, .int .i64 (o : Nat)), (6, .int .i64 (i : Nat))])
    (fun i wr => Kp w wr n_ ∧ OwnFd wr w.heap.size (.slice av D.length cv) D ∧ i + contH (u.drop i) = lenH u ∧ i ≤ u.length) (fun i => u.length - i) (endH u) ⟨rfl, rfl, rfl, rfl, trivial⟩ ⟨hK, ho, rfl, hel⟩ ?_
   clear hK ho
   rintro m g2 wq ⟨hK, ho, hm1, hm2⟩
   refine GW ?_
   rw [show ((o : Nat) : Int) + ((m : Nat) : Int) = ((o + m : Nat) : Int) from rfl]
   refine KGO ?_
   rw [zav, show s.drop (o + m) = u.drop m by rw [hu, List.drop_drop]]
   refine CallS.of (Tryz.call42 _ _) (zlt (u.drop m) wq) ?_
   rintro e w4 ⟨rfl, k4⟩
   have ho := zai ho k4
   have hK := hK.trans0 k4
   cases hg : goesH (u.drop m)
   ·refine RT ?_
    rw [zjt hg, Nat.add_zero] at hm1
    subst hm1
    refine KGO ?_
    rw [show ((o : Nat) : Int) + ((lenH u : Nat) : Int) = ((o + lenH u : Nat) : Int) from rfl]
    refine KGO ?_
    rw [zbc, show (s.take (o + lenH u)).drop o = u.take (lenH u) by rw [hu, List.drop_take]; congr 1; omega]
    refine CallS.of (Tryz.call43 _ _) (zjM (u.take (lenH u)) (hm.keep hK) (by rw [List.length_take]; omega)) ?_
    rintro e w5 ⟨rfl, k5⟩
    have ho := zai ho k5
    have hK := hK.trans0 k5
    refine RT ?_
    generalize fieldH (u.take (lenH u)) = F at *
    refine RunV.of (bs1Fd F _) ?_
    obtain ⟨a_b6, v_b6, k_w6, z_w6, r_w6⟩ := new5 w5 64 (fdC F)
    generalize w5.alloc (.cells (List.toArray (fdC F)) 64) = w6 at *
    generalize hs_b6 : w5.heap.size = b6 at *
    have o6 := zai ho k_w6
    have K6 := hK.trans0 k_w6
    refine KGO ?_
    refine tyFd.app1 F o6 (by have := K6.size; omega) a_b6 (by omega) (by omega) fun v7 w7 o7 k7 => ?_
    have K7 := zij o6 k7 w K6 (Nat.le_refl _)
    obtain ⟨a7, c7, rfl⟩ := zad o7
    refine KGO ?_
    refine ⟨(o + lenH u, _, D ++ [F]), ⟨rfl, rfl, v_int (by simp), trivial⟩, ⟨K7, o7, ?_, ?_, by dsimp only; omega, by dsimp only; rw [List.length_append, List.length_singleton]; omega⟩, by dsimp only; omega⟩
    ·dsimp only
     rw [← List.drop_drop, ← hu, ← he1, List.append_assoc]; rfl
    ·dsimp only
     rw [← List.drop_drop, ← hu, ← he2]
   ·refine RT ?_
    have hg1 := ziC hg
    have hml : (u.drop m).length = u.length - m := List.length_drop
    have hmn : u.drop m ≠ [] := fun h => by rw [h] at hg; cases hg
    have hml0 := List.length_pos_iff.2 hmn
    have hee := zbw (u.drop m)
    have hep2 := zbu hmn
    refine KGO ?_
    rw [show ((o : Nat) : Int) + ((m : Nat) : Int) = ((o + m : Nat) : Int) from rfl]
    refine KGO ?_
    rw [zav, show s.drop (o + m) = u.drop m by rw [hu, List.drop_drop]]
    refine CallS.of (Tryz.call40 _ _) (zis (u.drop m) (by omega) w4) ?_
    rintro e w5 ⟨rfl, k5⟩
    have ho := zai ho k5
    have hK := hK.trans0 k5
    refine RT ?_
    refine KGO ?_
    refine ⟨m + endH (u.drop m), ⟨rfl, rfl, rfl, v_int (by simp), trivial⟩, ⟨hK, ho, ?_, by omega⟩, by dsimp only; omega⟩
    rw [← List.drop_drop]; omega
 ·refine KGO ?_
  have e : s.drop o = [] := List.drop_eq_nil_of_le (by omega)
  rw [e, zkx] at he1 he2
  rw [List.append_nil] at he1
  rw [← he2, ← he1]
  exact ⟨_, rfl, ho, hK⟩
end
end Go.Proofs.YtmjeacpoobbjjaaGreatDoor
namespace Go.Proofs.YtmjeacpoobbjjaaGreatDoor
open Go.RowKit Go.Pw Go.Vc Go.Cs Go.Lib
section
variable {w : World}
theorem zdN (R : List Nat) (n : Nat) (h : n < R.length) : encs (R.take (n + 1)) = encs (R.take n) ++ enc (R.getD n 0) := by
 rw [List.take_add_one, zgk, List.getD, List.getElem?_eq_getElem h]
 simp [zdm, zjA]
theorem zfH (a : Option Addr) (cap B : Nat) (R : List Nat) (h : Rns w B (.slice a R.length cap) R) (hc : ∀ c ∈ R, c ≤ 1114111) (hR : R.length ≤ 100000000) :
  Calls Tryz.prog 185 #[.slice a R.length cap] w fun e w' => e = .returned (.string (str (encs R))) ∧ Kp w w' n_ := by
 refine zaa (args := [.slice a R.length cap]) Tryz.func185 rfl NL ?_; refine GW ?_
 have hb0 := zgi w w.heap.size (Nat.le_refl _)
 have K0 : Kp w (w.alloc (.cells #[.pointer none, .slice none 0 0] 122)) n_ := (Kp.refl _ _).alloc _
 generalize w.alloc (.cells #[.pointer none, .slice none 0 0] 122) = w0 at *
 refine Loop.intro (ι := Nat) (fun i => [(3, .pointer (some ⟨w.heap.size, 0, none⟩)), (6, .slice a R.length cap), (7, .int .i64 R.length), (8, .int .i64 i)])
  (fun i wr => Kp w wr n_ ∧ i ≤ R.length ∧ Bld wr w.heap.size w.heap.size (encs (R.take i))) (fun i => R.length - i) 0 ⟨rfl, rfl, rfl, rfl, trivial⟩
  ⟨K0, Nat.zero_le _, hb0⟩ ?_
 rintro n g wr ⟨hK, hn, hb⟩
 refine GW ?_
 by_cases hlt : n < R.length
 ·refine GO ?_
  obtain ⟨g, rfl, _, hg, hcell⟩ := zgL h hlt
  have hcell := (hK.cell (p := ⟨g, 0 + n, none⟩) hg id).trans hcell
  refine GO ?_
  have hm : R.getD n 0 ∈ R := by rw [List.getD, List.getElem?_eq_getElem hlt]; exact List.getElem_mem hlt
  have hm := hc _ hm
  refine CallS.of (Tryz.call203 _ _) (zkW ((R.getD n 0 : Nat) : Int) (by omega)) ?_
  rintro e w1 ⟨rfl, rfl⟩
  refine RT ?_
  have hel := zeQ (R.getD n 0)
  have hdl := (zhi (R.take n)).2
  rw [List.length_take] at hdl
  have hsz : (str (encodeRune ((R.getD n 0 : Nat) : Int))).size = (enc (R.getD n 0)).length := rfl
  refine CallS.of (Tryz.call109 _ _) (zbr (str (encodeRune ((R.getD n 0 : Nat) : Int))) wr hb (by rw [hsz]; omega) hK.size) ?_
  rintro e w1 ⟨rfl, hb1, hbe, _⟩
  refine RT ?_
  refine GO ?_
  refine ⟨n + 1, ⟨rfl, rfl, rfl, v_int (by simp), trivial⟩, ⟨hK.below' hbe (Nat.le_refl _), by omega, ?_⟩, by dsimp only; omega⟩
  rw [zdN R n hlt]; exact hb1
 ·refine GO ?_
  have hnn : n = R.length := by omega
  rw [hnn, List.take_length] at hb
  refine CallS.of (Tryz.call110 _ _) (zcO wr hb hK.size) ?_
  rintro e w1 ⟨rfl, hb1, hbe, _⟩
  refine RT ?_
  exact ⟨rfl, hK.below' hbe (Nat.le_refl _)⟩
theorem zhZ {c : Nat} (h : scal c) : c ≤ 1114111 := by unfold scal at h; omega
theorem zfL (s : ByteArray) (hT : Tabs w) (hs : s.size ≤ 100000000) : Calls Tryz.prog 171 #[.string s] w fun e w' => e = .returned (.string (str (repair (L s)))) ∧ Kp w w' n_ := by
 have hrl := (zfI (L s)).1
 rw [L_len] at hrl
 refine zaa (args := [.string s]) Tryz.func171 rfl NL ?_; refine GW ?_
 refine CallS.of (Tryz.call186 _ _) (zku s hT hs) ?_
 rintro e w1 ⟨v, rfl, h1, k1⟩
 obtain ⟨a, cap, rfl⟩ := h1.shape
 refine RT ?_
 refine CallS.of (Tryz.call185 _ _) (zfH a cap _ _ h1 (fun c hc => zhZ (zhK _ c hc)) (by omega)) ?_
 rintro e w2 ⟨rfl, k2⟩
 refine RT ?_
 exact ⟨rfl, k1.trans0 k2⟩
theorem zke (x : UInt8) : Calls Tryz.prog 205 #[.int .u8 x.toNat] w fun e w' => e = .returned (.int .i64 ((sgn 1 x : Nat) : Int)) ∧ w = w' := by
 refine zaa (args := [.int .u8 x.toNat]) Tryz.func205 rfl NL ?_; refine GW ?_
 unfold sgn
 by_cases h : x.toNat < 128
 ·refine GO ?_
  exact ⟨zcA (by rw [zcr]; simp [h]), rfl⟩
 ·refine GO ?_
  exact ⟨zcA (by simp [h]), rfl⟩
theorem zky (x : UInt8) : Calls Tryz.prog 206 #[.int .u8 x.toNat] w fun e w' => e = .returned (.int .i64 ((sgn 3 x : Nat) : Int)) ∧ w = w' := by
 refine zaa (args := [.int .u8 x.toNat]) Tryz.func206 rfl NL ?_; refine GW ?_
 exact ⟨zcA (by rw [zcr]; simp [sgn]), rfl⟩
theorem ziK (w : World) : (Instr.build 194 [(0, .int .i64 8364), (1, .int .i64 129), (2, .int .i64 8218), (3, .int .i64 402), (4, .int .i64 8222), (5, .int .i64 8230), (6, .int .i64 8224), (7, .int .i64 8225), (8, .int .i64 710), (9, .int .i64 8240), (10, .int .i64 352), (11, .int .i64 8249), (12, .int .i64 338), (13, .int .i64 141), (14, .int .i64 381), (15, .int .i64 143), (16, .int .i64 144), (17, .int .i64 8216), (18, .int .i64 8217), (19, .int .i64 8220), (20, .int .i64 8221), (21, .int .i64 8226), (22, .int .i64 8211), (23, .int .i64 8212), (24, .int .i64 732), (25, .int .i64 8482), (26, .int .i64 353), (27, .int .i64 8250), (28, .int .i64 339), (29, .int .i64 157), (30, .int .i64 382), (31, .int .i64 376)].toArray).run Tryz.prog w =
  .ok (.agg (highT.map fun (c : Nat) => Value.int .i64 (c : Int)).toArray) w := by
 simp [Instr.build, Instr.fill, go_sem, Tryz.runUnderlying194, highT]
theorem ziR (i : Nat) (hi : i < 32) (w : World) : (Instr.index 194 (.agg (highT.map fun (c : Nat) => Value.int .i64 (c : Int)).toArray) (.int .u8 (i : Int))).run Tryz.prog w = .ok (.int .i64 ((highT.getD i 0 : Nat) : Int)) w := by
 have hl : highT.length = 32 := rfl
 simp [Instr.index, go_sem, asIntOf, Tryz.runUnderlying194, part, List.getD, hl, hi]
theorem zhF (x : UInt8) : Calls Tryz.prog 190 #[.int .u8 x.toNat] w fun e w' => e = .returned (.int .i64 ((sgn 0 x : Nat) : Int)) ∧ w = w' := by
 have hx := UInt8.toNat_lt x
 refine zaa (args := [.int .u8 x.toNat]) Tryz.func190 rfl NL ?_; refine GW ?_
 by_cases h : x.toNat < 128
 ·refine GO ?_
  exact ⟨zcA (by rw [zcr, zfZ 0 x (by omega) (.inr (.inl h))]), rfl⟩
 ·by_cases h2 : 160 ≤ x.toNat
  ·refine GO ?_
   exact ⟨zcA (by rw [zcr, zfZ 0 x (by omega) (.inr (.inr h2))]), rfl⟩
  ·refine GO ?_
   refine RunV.of (ziK _) ?_
   refine GO ?_
   rw [show ((x.toNat : Int) - 128) = ((x.toNat - 128 : Nat) : Int) by omega]
   refine RunV.of (ziR _ (by omega) _) ?_
   refine GO ?_
   exact ⟨zcA (by rw [zkP 0 x (.inr rfl) (by omega) (by omega)]), rfl⟩
end
section
variable {w : World}
def Signs (g : FuncId) (k : Nat) : Prop := (∀ (args : Array Value) (w : World), (callFunc g args).run Tryz.prog w = .ok (.enter g args) w) ∧ ∀ (x : UInt8) (w : World), Calls Tryz.prog g #[.int .u8 x.toNat] w fun e w' => e = .returned (.int .i64 ((sgn k x : Nat) : Int)) ∧ w = w'
theorem zgB : Signs 205 1 := ⟨Tryz.call205, fun x w => zke x⟩
theorem zgd : Signs 206 3 := ⟨Tryz.call206, fun x w => zky x⟩
theorem zci : Signs 190 0 := ⟨Tryz.call190, fun x w => zhF x⟩
theorem zbz (g : FuncId) : Calls Tryz.prog 189 #[.func (.func g) #[] #[]] w fun e w' => ∃ b, e = .returned (.func (.func 207) #[] #[.pointer (some ⟨b, 0, none⟩)]) ∧ w'.cell? ⟨b, 0, none⟩ = some (.func (.func g) #[] #[]) ∧ Kp w w' n_ := by
 refine zaa (args := [.func (.func g) #[] #[]]) Tryz.func189 rfl NL ?_; refine GW ?_
 exact ⟨w.heap.size, by simp [ev, upd], by rw [World.cell?_alloc_new]; rfl, (Kp.refl _ _).alloc _⟩
theorem Rns.store {B g n c i : Nat} {l : List Nat} (h : Rns w B (.slice (some ⟨g, 0, none⟩) n c) l) (hi : i < n) (x : Nat) : ∃ u, w.cell? ⟨g, 0 + i, none⟩ = some u ∧ w.frozen? ⟨g, 0 + i, none⟩ = false ∧
  Rns (w.setCell ⟨g, 0 + i, none⟩ (.int .i64 (x : Int))) B (.slice (some ⟨g, 0, none⟩) n c) (l.set i x) ∧ w.grownBy (w.setCell ⟨g, 0 + i, none⟩ (.int .i64 (x : Int))) (some g) := by
 obtain ⟨a', c', e⟩ := zad h
 injection e with _ e _
 subst e
 obtain ⟨g', h1, _, _, hc⟩ := zgL h hi
 injection h1 with h1
 injection h1 with h1
 subst h1
 have hs := World.ownsRow.stored h i (.int .i64 (x : Int))
 rw [Nat.zero_add] at *
 refine ⟨_, hc, World.ownsRow.frozenAt h i, ?_, hs.2⟩
 have := hs.1
 unfold Rns
 rw [List.length_set, List.map_set]
 exact this
theorem maket : makeT Tryz.prog 36 = some (3, .int .i64 0, 8) := by kernel_rfl
theorem zjE (R : List Nat) (z n : Nat) (c : Nat) (h : n = R.length) : (R ++ List.replicate (z + 1) 0).set n c = R ++ [c] ++ List.replicate z 0 := by
 subst h
 rw [List.set_append_right _ _ (Nat.le_refl _), Nat.sub_self, List.replicate_succ, List.set_cons_zero, List.append_assoc]; rfl
theorem zbf (g k b : Nat) (s : ByteArray) (hg : Signs g k) (hb : w.cell? ⟨b, 0, none⟩ = some (.func (.func g) #[] #[])) (hs : s.size ≤ 100000000) :
  Calls Tryz.prog 207 #[.string s, .pointer (some ⟨b, 0, none⟩)] w fun e w' => e = .returned (.string (str (encs ((L s).map (sgn k))))) ∧ Kp w w' n_ := by
 have hl := L_len s
 refine zaa (args := [.string s, .pointer (some ⟨b, 0, none⟩)]) Tryz.func207 rfl NL ?_; refine GW ?_
 refine RunV.make s.size s.size maket rfl (Nat.le_refl _) (by omega) (by omega) ?_
 refine GO ?_
 have hr0 : Rns (w.alloc (.cells (Array.replicate s.size (.int .i64 0)) 3)) w.heap.size (.slice (some ⟨w.heap.size, 0, none⟩) s.size s.size) (List.replicate s.size 0) := by
  have := zhk w (Array.replicate s.size (.int .i64 0)) 3 s.size (by simp) (by omega)
  unfold Rns
  rw [List.length_replicate, List.map_replicate]
  simpa using this
 have K0 : Kp w (w.alloc (.cells (Array.replicate s.size (.int .i64 0)) 3)) n_ := (Kp.refl _ _).alloc _
 generalize w.alloc (.cells (Array.replicate s.size (.int .i64 0)) 3) = w0 at *
 refine Loop.intro (ι := Nat) (fun i => [(0, .string s), (1, .pointer (some ⟨b, 0, none⟩)), (4, .slice (some ⟨w.heap.size, 0, none⟩) s.size s.size), (10, .int .i64 s.size), (11, .int .i64 i)])
  (fun i wr => Kp w wr n_ ∧ i ≤ s.size ∧ Rns wr w.heap.size (.slice (some ⟨w.heap.size, 0, none⟩) s.size s.size) (((L s).take i).map (sgn k) ++ List.replicate (s.size - i) 0)) (fun i => s.size - i) 0 ⟨rfl, rfl, rfl, rfl, rfl, trivial⟩
  ⟨K0, Nat.zero_le _, hr0⟩ ?_
 rintro n g wr ⟨hK, hn, hr⟩
 refine GW ?_
 by_cases hlt : n < s.size
 ·refine GO ?_
  have hbc := (hK.drew.cell (p := ⟨b, 0, none⟩) (zaU hb) id).trans hb
  refine Load.one (by rfl) hbc ?_
  refine GO ?_
  obtain ⟨x, hx0, hx1, hx2, _⟩ := zdu s n hlt
  have hx0 : byteAt s n = x := hx0
  rw [hx0]
  refine CallS.of (hg.1 _ _) (hg.2 x _) ?_
  rintro e w1 ⟨rfl, rfl⟩
  refine RT ?_
  refine GO ?_
  obtain ⟨u, s1, s2, s3, s4⟩ := Rns.store (w := wr.drew) (zkf hr) hlt (sgn k x)
  refine Store.one (by rfl) ⟨rfl, by simp, by simp⟩ s1 s2 ?_
  have K1 := hK.drew.grown s4 (fun j hj => by injection hj with hj; omega)
  generalize (wr.drew).setCell ⟨w.heap.size, 0 + n, none⟩ (.int .i64 ((sgn k x : Nat) : Int)) = w2 at *
  refine GO ?_
  refine ⟨n + 1, ⟨rfl, rfl, rfl, rfl, v_int (by simp), trivial⟩, ⟨K1, by omega, ?_⟩, by dsimp only; omega⟩
  rw [hx2, List.map_append, List.map_cons, List.map_nil, ← zjE _ (s.size - (n + 1)) n (sgn k x) (by rw [List.length_map, List.length_take]; omega), show s.size - (n + 1) + 1 = s.size - n by omega]
  exact s3
 ·refine GO ?_
  have hnn : n = s.size := by omega
  subst hnn
  rw [Nat.sub_self, List.replicate_zero, List.append_nil, ← hl, List.take_length] at hr
  have hr' : Rns wr w.heap.size (.slice (some ⟨w.heap.size, 0, none⟩) ((L s).map (sgn k)).length s.size) ((L s).map (sgn k)) := by rw [List.length_map]; exact hr
  have hj := zfH (some ⟨w.heap.size, 0, none⟩) s.size _ _ hr' (fun c hc => by
   obtain ⟨y, _, rfl⟩ := List.mem_map.1 hc
   exact zhZ (zjs k y)) (by rw [List.length_map]; omega)
  rw [List.length_map, hl] at hj
  refine CallS.of (Tryz.call185 _ _) hj ?_
  rintro e w2 ⟨rfl, k2⟩
  refine RT ?_
  exact ⟨rfl, hK.trans0 k2⟩
end
end Go.Proofs.YtmjeacpoobbjjaaGreatDoor
