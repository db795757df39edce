/- Helper text of this claim: lemmas and contracts that the proved statement rests on; no conditions of its own. -/
import Derived.Test.YtohhkegmbgancaaGreatDoorGAe9
namespace Go.Proofs.YtohhkegmbgancaaGreatDoor
set_option maxHeartbeats 4000000
open Go.RowKit Go.Pw Go.Vc Go.Cs Go.Lib
set_option linter.unusedVariables false
set_option maxRecDepth 100000
theorem zja (s : List UInt8) : decide (str s = (⟨#[]⟩ : ByteArray)) = decide (s = []) := by
 by_cases h : s = []
 ·rw [h]; rfl
 ·rw [decide_eq_false h]
  exact decide_eq_false fun e => h (by have := congrArg L e; rwa [L_str] at this)
section
variable {w w' : World}
theorem zcF {v : Value} (l : List Bx) (id : Int) (hv : RowB w v l) (hl : l.length ≤ 1000000) : Calls Tryz.prog 107 #[v, .int .i64 id] w fun e w' => e = .returned (.int .i64 (findV l id)) ∧ Kp w w' n_ := by
 obtain ⟨a, cap, rfl, hr⟩ := hv
 refine zaa (args := [.slice a l.length cap, .int .i64 id]) Tryz.func107 rfl NL ?_; refine GW ?_
 refine Loop.intro (ι := Nat) (fun i => [(0, .slice a l.length cap), (1, .int .i64 id), (5, .int .i64 (i : Nat))])
  (fun i wr => Kp w wr n_ ∧ i ≤ l.length ∧ ∀ b ∈ l.take i, b.id ≠ id) (fun i => l.length - i) 0 ⟨rfl, rfl, rfl, trivial⟩ ⟨Kp.refl _ _, Nat.zero_le _, by simp⟩ ?_
 rintro i gg wr ⟨hK, hi, ht⟩
 refine GW ?_
 by_cases hlt : i < l.length
 ·obtain ⟨g, o, rfl, hg, hat⟩ := hr (by omega)
  have htk : l.take (i + 1) = l.take i ++ [l[i]] := List.take_succ_eq_append_getElem hlt
  by_cases he : l[i].id = id
  ·refine KGO ?_
   refine ⟨?_, hK⟩
   unfold findV
   rw [ziZ hlt ht he, if_pos hlt]
  ·refine KGO ?_
   refine ⟨i + 1, ⟨rfl, rfl, v_int (by simp), trivial⟩, ⟨hK, by omega, ?_⟩, by dsimp only; omega⟩
   rw [htk]
   intro b hb
   rcases List.mem_append.1 hb with hb | hb
   ·exact ht b hb
   ·rw [List.mem_singleton.1 hb]; exact he
 ·refine KGO ?_
  refine ⟨?_, hK⟩
  rw [List.take_of_length_le (by omega)] at ht
  unfold findV
  rw [zhl ht, if_neg (Nat.lt_irrefl _)]
theorem zdS {v : Value} (l : List Bx) (id : Int) (hv : RowB w v l) (hl : l.length ≤ 1000000) : Calls Tryz.prog 108 #[v, .int .i64 id] w fun e w' => e = .returned (.int .i64 (deepR l id : Nat)) ∧ Kp w w' n_ := by
 have hv0 := hv
 obtain ⟨a, cap, rfl, hr⟩ := hv
 refine zaa (args := [.slice a l.length cap, .int .i64 id]) Tryz.func108 rfl NL ?_; refine GW ?_
 refine Loop.intro (ι := Nat × Int) (fun i => [(0, .slice a l.length cap), (1, .int .i64 i.2), (5, .int .i64 (i.1 : Nat))])
  (fun i wr => Kp w wr n_ ∧ i.1 ≤ l.length + 1 ∧ deepR l id = deepAt l i.2 i.1) (fun i => l.length + 1 - i.1) (0, id) ⟨rfl, rfl, rfl, trivial⟩ ⟨Kp.refl _ _, Nat.zero_le _, (zia _ _).symm⟩ ?_
 rintro ⟨n, y⟩ gg wr ⟨hK, hn, ht⟩
 dsimp only at hn ht ⊢
 refine GW ?_
 by_cases hlt : n ≤ l.length
 ·by_cases h0 : y = 0
  ·refine KGO ?_
   rw [ht, h0, zhU l n hlt]
   exact ⟨rfl, hK⟩
  ·refine KGO ?_
   refine CallS.of (Tryz.call107 _ _) (zcF (w := wr) l y (hv0.keep hK) hl) ?_
   rintro e w1 ⟨rfl, k1⟩
   refine RT ?_
   have K1 := hK.trans0 k1
   cases hb : boxOf l y with
   | none =>
    have hneg := zcs.2 hb
    refine KGO ?_
    rw [ht, zhW n h0 hb]
    exact ⟨rfl, K1⟩
   | some b =>
    obtain ⟨hk, he, hf⟩ := zbY hb
    rw [hf]
    obtain ⟨g, o, rfl, hg, hat⟩ := hr (by omega)
    refine KGO ?_
    rw [he]
    refine KGO ?_
    exact ⟨(n + 1, b.up), ⟨rfl, rfl, v_int (by simp), trivial⟩, ⟨K1, by dsimp only; omega, by rw [ht, zim n h0 hb hlt]⟩, by dsimp only; omega⟩
 ·refine KGO ?_
  have e : n = l.length + 1 := by omega
  rw [ht, e, zko]
  exact ⟨rfl, hK⟩
theorem zdr (a b : List UInt8) (ha : a.length ≤ 100000000) (hb : b.length ≤ 100000000) : Calls Tryz.prog 160 #[.string (str a), .string (str b)] w fun e w' => e = .returned (.bool (decide (foldL a = foldL b))) ∧ Kp w w' n_ := by
 refine zaa (args := [.string (str a), .string (str b)]) Tryz.func160 rfl NL ?_; refine GW ?_
 refine CallS.of (Tryz.call188 _ _) (zfU (w := w) (str a) (by rw [zav]; omega)) ?_
 rintro e w1 ⟨rfl, k1⟩
 rw [L_str]
 refine RT ?_
 refine KGO ?_
 refine CallS.of (Tryz.call188 _ _) (zfU (w := w1) (str b) (by rw [zav]; omega)) ?_
 rintro e w2 ⟨rfl, k2⟩
 rw [L_str]
 refine RT ?_
 refine KGO ?_
 refine ⟨zad ?_, k1.trans0 k2⟩
 rw [decide_eq_decide, zcU]
theorem zpb {v : Value} (l : List Bx) (r : List UInt8) (hv : RowB w v l) (hl : l.length ≤ 1000000) : Calls Tryz.prog 106 #[v, .string (str r)] w fun e w' => e = .returned (optV (roleOf l r)) ∧ Kp w w' n_ := by
 obtain ⟨a, cap, rfl, hr⟩ := hv
 refine zaa (args := [.slice a l.length cap, .string (str r)]) Tryz.func106 rfl NL ?_; refine GW ?_
 have hrd : decide (str r = (⟨#[]⟩ : ByteArray)) = decide (r = []) := by
  by_cases h : r = []
  ·rw [h]; rfl
  ·rw [decide_eq_false h]
   exact decide_eq_false fun e => h (by have := congrArg L e; rwa [L_str] at this)
 refine Loop.intro (ι := Nat) (fun i => [(0, .slice a l.length cap), (1, .string (str r)), (6, .int .i64 (i : Nat))])
  (fun i wr => Kp w wr n_ ∧ i ≤ l.length ∧ roleOf l r = roleOf (l.drop i) r) (fun i => l.length - i) 0 ⟨rfl, rfl, rfl, trivial⟩ ⟨Kp.refl _ _, Nat.zero_le _, rfl⟩ ?_
 rintro i gg wr ⟨hK, hi, ht⟩
 refine GW ?_
 by_cases hlt : i < l.length
 ·obtain ⟨g, o, rfl, hg, hat⟩ := hr (by omega)
  rw [List.drop_eq_getElem_cons hlt] at ht
  have hq : decide (str l[i].role = str r) = decide (l[i].role = r) := by rw [decide_eq_decide, zcU]
  by_cases he : l[i].role = r
  ·rw [decide_eq_true he] at hq
   by_cases h0 : r = []
   ·rw [decide_eq_true h0] at hrd
    refine KGO ?_
    refine ⟨i + 1, ⟨rfl, rfl, v_int (by simp), trivial⟩, ⟨hK, by omega, ?_⟩, by dsimp only; omega⟩
    rw [ht]; unfold roleOf; rw [if_pos h0, if_pos h0]
   ·rw [decide_eq_false h0] at hrd
    refine KGO ?_
    refine ⟨?_, hK⟩
    rw [ht]
    unfold roleOf
    rw [if_neg h0, List.find?_cons_of_pos (by simpa using he)]; rfl
  ·rw [decide_eq_false he] at hq
   refine KGO ?_
   refine ⟨i + 1, ⟨rfl, rfl, v_int (by simp), trivial⟩, ⟨hK, by omega, ?_⟩, by dsimp only; omega⟩
   rw [ht]
   unfold roleOf
   by_cases h0 : r = []
   ·rw [if_pos h0, if_pos h0]
   ·rw [if_neg h0, if_neg h0, List.find?_cons_of_neg (by simpa using he)]
 ·refine KGO ?_
  refine ⟨?_, hK⟩
  rw [ht, List.drop_eq_nil_of_le (by omega)]
  unfold roleOf
  by_cases h0 : r = []
  ·rw [if_pos h0]; rfl
  ·rw [if_neg h0]; rfl
theorem zkM (b : UInt8) : fineB b = true ↔ ¬ b.toNat < 32 ∧ ¬ b.toNat = 127 ∧ ¬ b.toNat = 47 := by
 unfold fineB
 simp [and_assoc]
theorem zgu (s : ByteArray) (hs : s.size ≤ 140737488355328) : Calls Tryz.prog 103 #[.string s] w fun e w' => e = .returned (.bool (namedB (L s))) ∧ Kp w w' n_ := by
 have hl := L_len s
 refine zaa (args := [.string s]) Tryz.func103 rfl NL ?_; refine GW ?_
 refine Loop.intro (ι := Nat) (fun i => [(0, .string s), (3, .int .i64 i)])
  (fun i wr => Kp w wr n_ ∧ i ≤ s.size ∧ ∀ b ∈ (L s).take i, fineB b = true) (fun i => s.size - i) 0 ⟨rfl, rfl, trivial⟩
  ⟨Kp.refl _ _, Nat.zero_le _, by simp⟩ ?_
 rintro n g wr ⟨hK, hn, ht⟩
 refine GW ?_
 by_cases hlt : n < s.size
 ·have hn2 : n < (L s).length := by omega
  have hbe : byteAt s n = (L s)[n] := by
   show (L s).getD n 0 = _
   rw [List.getD, List.getElem?_eq_getElem hn2]; rfl
  have htk : (L s).take (n + 1) = (L s).take n ++ [byteAt s n] := by rw [List.take_succ_eq_append_getElem hn2, hbe]
  have hmem : byteAt s n ∈ L s := by rw [hbe]; exact List.getElem_mem hn2
  have hfc := zkM (byteAt s n)
  have hbad : ¬ fineB (byteAt s n) = true → namedB (L s) = false := fun h => by
   cases hq : namedB (L s) with
   | false => rfl
   | true => exact absurd (((zbj _).1 hq).2.2.2 _ hmem) h
  have hxl := UInt8.toNat_lt (byteAt s n)
  by_cases h1 : (byteAt s n).toNat < 32
  ·refine KGO ?_
   exact ⟨zad (hbad fun h => (hfc.1 h).1 h1).symm, hK⟩
  by_cases h2 : (byteAt s n).toNat = 127
  ·refine KGO ?_
   exact ⟨zad (hbad fun h => (hfc.1 h).2.1 h2).symm, hK⟩
  by_cases h3 : (byteAt s n).toNat = 47
  ·refine KGO ?_
   exact ⟨zad (hbad fun h => (hfc.1 h).2.2 h3).symm, hK⟩
  refine KGO ?_
  refine ⟨n + 1, ⟨rfl, v_int (by simp), trivial⟩, ⟨hK, by omega, ?_⟩, by dsimp only; omega⟩
  rw [htk]
  intro b hb
  rcases List.mem_append.1 hb with hb | hb
  ·exact ht b hb
  ·rw [List.mem_singleton.1 hb]; exact hfc.2 ⟨h1, h2, h3⟩
 ·refine KGO ?_
  rw [List.take_of_length_le (by omega)] at ht
  have hall : (L s).all fineB = true := List.all_eq_true.2 ht
  have hN : namedB (L s) = (decide (1 ≤ s.size) && decide (s.size ≤ 100) && validD (L s)) := by
   unfold namedB
   rw [hall, Bool.and_true, hl]
  rw [hN]
  by_cases h1 : 1 ≤ s.size
  ·by_cases h2 : s.size ≤ 100
   ·refine KGO ?_
    refine CallS.of (Tryz.call159 _ _) (zld (w := wr) s (by omega)) ?_
    rintro e w1 ⟨rfl, k1⟩
    refine RT ?_
    refine KGO ?_
    refine ⟨zad ?_, hK.trans0 k1⟩
    rw [decide_eq_true h1, decide_eq_true h2]; rfl
   ·refine KGO ?_
    refine ⟨zad ?_, hK⟩
    rw [decide_eq_false h2]; simp
  ·refine KGO ?_
   refine ⟨zad ?_, hK⟩
   rw [decide_eq_false h1]; simp
end
end Go.Proofs.YtohhkegmbgancaaGreatDoor
namespace Go.Proofs.YtohhkegmbgancaaGreatDoor
set_option maxHeartbeats 4000000
open Go.Shelf Go.RowKit Go.Pw Go.Vc Go.Cs Go.Lib
set_option linter.unusedVariables false
set_option maxRecDepth 100000
section
variable {w : World}
theorem ra_in (n lo hi : Int) : Calls Tryz.prog 162 #[.int .i64 n, .int .i64 lo, .int .i64 hi] w fun e w' => e = .returned (.bool (decide (lo ≤ n ∧ n ≤ hi))) ∧ Kp w w' n_ := by
 refine zaa (args := [.int .i64 n, .int .i64 lo, .int .i64 hi]) Tryz.func162 rfl NL ?_; refine GW ?_
 by_cases h1 : lo ≤ n
 ·refine KGO ?_
  exact ⟨zad (decide_eq_decide.2 ⟨fun h => ⟨h1, h⟩, fun h => h.2⟩), Kp.refl _ _⟩
 ·refine KGO ?_
  exact ⟨zad (decide_eq_false fun h => h1 h.1).symm, Kp.refl _ _⟩
theorem znZ (s : List UInt8) (hs : s.length ≤ 140737488355328) : Calls Tryz.prog 189 #[.string (str s)] w fun e w' => e = .returned (.bool (flagB s)) ∧ Kp w w' n_ := by
 have hz : (str s).size = s.length := zav s
 refine zaa (args := [.string (str s)]) Tryz.func189 rfl NL ?_; refine GW ?_
 refine Loop.intro (ι := Nat) (fun i => [(0, .string (str s)), (3, .int .i64 (i : Nat))])
  (fun i wr => Kp w wr n_ ∧ i ≤ s.length ∧ (s.take i).all flagCh = true) (fun i => s.length - i) 0 ⟨rfl, rfl, trivial⟩ ⟨Kp.refl _ _, Nat.zero_le _, rfl⟩ ?_
 rintro i gg wr ⟨hK, hi, he⟩
 refine GW ?_
 by_cases hlt : i < s.length
 ·have hb := zgq hlt
  have hst := zes hlt he
  have hno : ¬ flagCh s[i] = true → flagB s = false := fun h => by unfold flagB; rw [ziX hlt h]; rfl
  rw [← hb] at hst hno
  have hf : flagCh (byteAt (str s) i) = true ↔ (97 ≤ (byteAt (str s) i).toNat ∧ (byteAt (str s) i).toNat ≤ 122) ∨ (48 ≤ (byteAt (str s) i).toNat ∧ (byteAt (str s) i).toNat ≤ 57) ∨ (byteAt (str s) i).toNat = 36 ∨ (byteAt (str s) i).toNat = 92 ∨ (byteAt (str s) i).toNat = 45 ∨ (byteAt (str s) i).toNat = 95 ∨ (byteAt (str s) i).toNat = 46 := by
   rw [zgi]
   simp only [List.mem_cons, List.not_mem_nil, or_false, ← UInt8.toNat_inj]
   exact Iff.rfl
  have hcl := UInt8.toNat_lt (byteAt (str s) i)
  clear hb
  have goOn : flagCh (byteAt (str s) i) = true → (Kp w wr n_ ∧ i + 1 ≤ s.length ∧ (s.take (i + 1)).all flagCh = true) := fun h => ⟨hK, by omega, hst h⟩
  clear hst
  by_cases h1 : 97 ≤ (byteAt (str s) i).toNat ∧ (byteAt (str s) i).toNat ≤ 122
  ·obtain ⟨h1, h2⟩ := h1
   have hc := hf.2 (.inl ⟨h1, h2⟩)
   clear hf hno
   refine KGO ?_
   exact ⟨i + 1, ⟨rfl, v_int (by simp), trivial⟩, goOn hc, by dsimp only; omega⟩
  by_cases h3 : 48 ≤ (byteAt (str s) i).toNat ∧ (byteAt (str s) i).toNat ≤ 57
  ·obtain ⟨h3, h4⟩ := h3
   have hc := hf.2 (.inr (.inl ⟨h3, h4⟩))
   clear hf hno
   have h5 : ¬ 97 ≤ (byteAt (str s) i).toNat := by omega
   refine KGO ?_
   exact ⟨i + 1, ⟨rfl, v_int (by simp), trivial⟩, goOn hc, by dsimp only; omega⟩
  by_cases h6 : (byteAt (str s) i).toNat = 36 ∨ (byteAt (str s) i).toNat = 92 ∨ (byteAt (str s) i).toNat = 45 ∨ (byteAt (str s) i).toNat = 95 ∨ (byteAt (str s) i).toNat = 46
  ·have hc := hf.2 (.inr (.inr h6))
   clear hf hno h1 h3
   rcases h6 with h6 | h6 | h6 | h6 | h6
   all_goals
    refine KGO ?_
    exact ⟨i + 1, ⟨rfl, v_int (by simp), trivial⟩, goOn hc, by dsimp only; omega⟩
  ·have hno := hno fun h => by
    rcases hf.1 h with h | h | h
    ·exact h1 h
    ·exact h3 h
    ·exact h6 h
   clear hf goOn
   by_cases g1 : 97 ≤ (byteAt (str s) i).toNat
   ·have g2 : ¬ (byteAt (str s) i).toNat ≤ 122 := by omega
    have g3 : ¬ (byteAt (str s) i).toNat ≤ 57 := by omega
    clear h1 h3
    have q1 : (byteAt (str s) i).toNat ≠ 36 := by omega
    have q2 : (byteAt (str s) i).toNat ≠ 92 := by omega
    have q3 : (byteAt (str s) i).toNat ≠ 45 := by omega
    have q4 : (byteAt (str s) i).toNat ≠ 95 := by omega
    have q5 : (byteAt (str s) i).toNat ≠ 46 := by omega
    refine KGO ?_
    exact ⟨zad hno.symm, hK⟩
   ·have q1 : (byteAt (str s) i).toNat ≠ 36 := by omega
    have q2 : (byteAt (str s) i).toNat ≠ 92 := by omega
    have q3 : (byteAt (str s) i).toNat ≠ 45 := by omega
    have q4 : (byteAt (str s) i).toNat ≠ 95 := by omega
    have q5 : (byteAt (str s) i).toNat ≠ 46 := by omega
    by_cases g2 : 48 ≤ (byteAt (str s) i).toNat
    ·have g3 : ¬ (byteAt (str s) i).toNat ≤ 57 := by omega
     clear h1 h3
     refine KGO ?_
     exact ⟨zad hno.symm, hK⟩
    ·clear h1 h3
     refine KGO ?_
     exact ⟨zad hno.symm, hK⟩
 ·rw [List.take_of_length_le (by omega)] at he
  refine KGO ?_
  rw [hz]
  refine CallS.of (Tryz.call162 _ _) (ra_in (w := wr) (s.length : Nat) 1 30) ?_
  rintro e w1 ⟨rfl, k1⟩
  refine RT ?_
  exact ⟨zad (by unfold flagB; rw [he, Bool.true_and]; exact decide_eq_decide.2 (by omega)), hK.trans0 k1⟩
theorem znf (s : List UInt8) (hs : s.length ≤ 140737488355328) : Calls Tryz.prog 171 #[.string (str s)] w fun e w' => e = .returned (.bool (scB s)) ∧ Kp w w' n_ := by
 have hz : (str s).size = s.length := zav s
 refine zaa (args := [.string (str s)]) Tryz.func171 rfl NL ?_; refine GW ?_
 refine Loop.intro (ι := Nat) (fun i => [(0, .string (str s)), (3, .int .i64 (i : Nat))])
  (fun i wr => Kp w wr n_ ∧ i ≤ s.length ∧ (s.take i).all scCh = true) (fun i => s.length - i) 0 ⟨rfl, rfl, trivial⟩ ⟨Kp.refl _ _, Nat.zero_le _, rfl⟩ ?_
 rintro i gg wr ⟨hK, hi, he⟩
 refine GW ?_
 by_cases hlt : i < s.length
 ·have hb := zgq hlt
  have hst := zes hlt he
  have hno : ¬ scCh s[i] = true → scB s = false := fun h => by unfold scB; rw [ziX hlt h]; rfl
  rw [← hb] at hst hno
  have hf := ziL (byteAt (str s) i)
  have hcl := UInt8.toNat_lt (byteAt (str s) i)
  by_cases h1 : (byteAt (str s) i).toNat < 32
  ·refine KGO ?_
   exact ⟨zad (hno fun h => by have := hf.1 h; omega).symm, by first | exact hK | exact hK.drew⟩
  ·by_cases h2 : (byteAt (str s) i).toNat = 127
   ·refine KGO ?_
    exact ⟨zad (hno fun h => by have := hf.1 h; omega).symm, by first | exact hK | exact hK.drew⟩
   ·refine KGO ?_
    exact ⟨i + 1, ⟨rfl, v_int (by simp), trivial⟩, ⟨by first | exact hK | exact hK.drew, by omega, hst (hf.2 ⟨by omega, h2⟩)⟩, by dsimp only; omega⟩
 ·rw [List.take_of_length_le (by omega)] at he
  refine KGO ?_
  rw [hz]
  refine CallS.of (Tryz.call162 _ _) (ra_in (w := wr) (s.length : Nat) 1 100) ?_
  rintro e w1 ⟨rfl, k1⟩
  refine RT ?_
  exact ⟨zad (by unfold scB; rw [he, Bool.true_and]; exact decide_eq_decide.2 (by omega)), hK.trans0 k1⟩
theorem zdy {v : Value} (l : List (List UInt8)) (hv : RowT w v l) (hl : l.length ≤ 8796093022208) (hs : ∀ s ∈ l, s.length ≤ 140737488355328) : Calls Tryz.prog 161 #[v] w fun e w' => e = .returned (.bool (flagsB l)) ∧ Kp w w' n_ := by
 obtain ⟨a, cap, rfl, hr⟩ := hv
 refine zaa (args := [.slice a l.length cap]) Tryz.func161 rfl NL ?_; refine GW ?_
 refine Loop.intro (ι := Nat) (fun i => [(0, .slice a l.length cap), (3, .int .i64 (i : Nat))])
  (fun i wr => Kp w wr n_ ∧ i ≤ l.length ∧ (l.take i).all flagB = true) (fun i => l.length - i) 0 ⟨rfl, rfl, trivial⟩ ⟨Kp.refl _ _, Nat.zero_le _, rfl⟩ ?_
 rintro i gg wr ⟨hK, hi, he⟩
 refine GW ?_
 by_cases hlt : i < l.length
 ·obtain ⟨g, o, rfl, hg, hat⟩ := hr (by omega)
  have ct := zbB (zac hat hK) hlt
  refine KGO ?_
  refine CallS.of (Tryz.call189 _ _) (znZ (w := wr) l[i] (hs _ (List.getElem_mem hlt))) ?_
  rintro e w1 ⟨rfl, k1⟩
  refine RT ?_
  by_cases hb : flagB l[i] = true
  ·rw [hb]
   refine KGO ?_
   exact ⟨i + 1, ⟨rfl, v_int (by simp), trivial⟩, ⟨hK.trans0 k1, by omega, by rw [List.take_succ_eq_append_getElem hlt, List.all_append, he]; simp [hb]⟩, by dsimp only; omega⟩
  ·have hb : flagB l[i] = false := by simpa using hb
   rw [hb]
   refine KGO ?_
   exact ⟨zad (by unfold flagsB; exact (List.all_eq_false.2 ⟨_, List.getElem_mem hlt, by simp [hb]⟩).symm), hK.trans0 k1⟩
 ·refine KGO ?_
  rw [List.take_of_length_le (by omega)] at he
  exact ⟨zad he.symm, hK⟩
theorem zgF {v u : Value} (l : List Bx) (ids : List Int) (hv : RowB w v l) (hu : RowI w u ids) (hl : l.length ≤ 1000000) (hi : ids.length ≤ 17592186044416) : Calls Tryz.prog 163 #[v, u] w fun e w' => e = .returned (.bool (thereB l ids)) ∧ Kp w w' n_ := by
 obtain ⟨a, ca, rfl, hra⟩ := hv
 obtain ⟨b, cb, rfl, hrb⟩ := hu
 refine zaa (args := [.slice a l.length ca, .slice b ids.length cb]) Tryz.func163 rfl NL ?_; refine GW ?_
 refine Loop.intro (ι := Nat) (fun i => [(0, .slice a l.length ca), (1, .slice b ids.length cb), (5, .int .i64 (i : Nat))])
  (fun i wr => Kp w wr n_ ∧ i ≤ ids.length ∧ thereB l (ids.take i) = true) (fun i => ids.length - i) 0 ⟨rfl, rfl, rfl, trivial⟩ ⟨Kp.refl _ _, Nat.zero_le _, rfl⟩ ?_
 rintro i gg wr ⟨hK, hi, he⟩
 refine GW ?_
 by_cases hlt : i < ids.length
 ·obtain ⟨gb, ob, rfl, hgb, hatb⟩ := hrb (by omega)
  have ci := zbS hatb hlt
  refine KGO ?_
  refine Loop.intro (ι := Nat) (fun k => [(0, .slice a l.length ca), (1, .slice (some ⟨gb, ob, none⟩) ids.length cb), (5, .int .i64 (i : Nat)), (6, .bool ((l.take k).any fun b => decide (b.id = ids[i]))), (7, .int .i64 (k : Nat))])
   (fun k w2 => Kp w w2 n_ ∧ k ≤ l.length) (fun k => l.length - k) 0 ⟨rfl, rfl, rfl, rfl, rfl, trivial⟩ ⟨hK, Nat.zero_le _⟩ ?_
  rintro k g2 w2 ⟨hK2, hk⟩
  refine GW ?_
  by_cases hkl : k < l.length
  ·obtain ⟨ga, oa, rfl, hga, hata⟩ := hra (by omega)
   have hstep : ((l.take (k + 1)).any fun b => decide (b.id = ids[i])) = (((l.take k).any fun b => decide (b.id = ids[i])) || decide (l[k].id = ids[i])) := by
    rw [List.take_succ_eq_append_getElem hkl, List.any_append]; simp
   by_cases hq : ((l.take k).any fun b => decide (b.id = ids[i])) = true
   ·rw [hq] at hstep ⊢
    refine KGO ?_
    exact ⟨k + 1, ⟨rfl, rfl, rfl, by rw [hstep]; rfl, v_int (by simp), trivial⟩, ⟨by first | exact hK2 | exact hK2.drew, by omega⟩, by dsimp only; omega⟩
   ·have hq : ((l.take k).any fun b => decide (b.id = ids[i])) = false := by simpa using hq
    rw [hq] at hstep ⊢
    refine KGO ?_
    exact ⟨k + 1, ⟨rfl, rfl, rfl, by rw [hstep]; rfl, v_int (by simp), trivial⟩, ⟨by first | exact hK2 | exact hK2.drew, by omega⟩, by dsimp only; omega⟩
  ·have e : (l.take k) = l := List.take_of_length_le (by omega)
   rw [e]
   by_cases hq : (l.any fun b => decide (b.id = ids[i])) = true
   ·rw [hq]
    refine KGO ?_
    exact ⟨i + 1, ⟨rfl, rfl, v_int (by simp), trivial⟩, ⟨hK2, by omega, by unfold thereB at he ⊢; rw [List.take_succ_eq_append_getElem hlt, List.all_append, he]; simpa using hq⟩, by dsimp only; omega⟩
   ·have hq : (l.any fun b => decide (b.id = ids[i])) = false := by simpa using hq
    rw [hq]
    refine KGO ?_
    exact ⟨zad (by unfold thereB; exact (List.all_eq_false.2 ⟨_, List.getElem_mem hlt, by rw [hq]; simp⟩).symm), hK2⟩
 ·refine KGO ?_
  rw [List.take_of_length_le (by omega)] at he
  exact ⟨zad he.symm, hK⟩
theorem ziS {h : Hd} {A : Acc} (id : Int) (ha : RowM w h.M.v A.mails) (hl : A.mails.length ≤ 1000000) : Calls Tryz.prog 53 #[.agg (accC h A).toArray, .int .i64 id] w fun e w' => e = .returned (.int .i64 (placeL A.mails id)) ∧ Kp w w' n_ := by
 obtain ⟨lx, hm, hr, hx⟩ := ha
 have hlx : lx.length = A.mails.length := by rw [← hm, List.length_map]
 have hxm : ∀ j (hj : j < lx.length), (lx[j]).m = A.mails[j]'(by omega) := fun j hj => by simp [← hm]
 obtain ⟨a, ca, hMa, hra⟩ := hr
 injection hMa with e1 e2 e3
 refine zaa (args := [.agg (accC h A).toArray, .int .i64 id]) Tryz.func53 rfl NL ?_; refine GW ?_
 obtain ⟨a_b1, v_b1, k_w1, z_w1, r_w1⟩ := new5 w 36 (accC h A)
 generalize w.alloc (.cells (List.toArray (accC h A)) 36) = w1 at *
 generalize hs_b1 : w.heap.size = b1 at *
 have hb : At w1 b1 0 (accC h A) := a_b1
 unfold accC at hb
 rw [e1, e2, e3] at hb
 refine Loop.intro (ι := Nat) (fun i => [(1, .int .i64 id), (2, .pointer (some ⟨b1, 0, none⟩)), (5, .int .i64 (i : Nat))])
  (fun i wr => Kp w1 wr n_ ∧ i ≤ lx.length ∧ ∀ j (hj : j < lx.length), j < i → lx[j].m.id ≠ id) (fun i => lx.length - i) 0 ⟨rfl, rfl, rfl, trivial⟩ ⟨Kp.refl _ _, Nat.zero_le _, fun j _ h => absurd h (Nat.not_lt_zero _)⟩ ?_
 rintro i gg wr ⟨hK, hi, hn⟩
 refine GW ?_
 refine KGO ?_
 by_cases hlt : i < lx.length
 ·obtain ⟨ga, oa, rfl, hga, hata⟩ := hra (by omega)
  have hata := zac hata k_w1
  have hid := hxm i hlt
  have hn2 : ∀ j (hj : j < A.mails.length), j < i → decide (A.mails[j].id = id) = false := fun j hj h => by
   rw [← hxm j (by omega)]
   exact decide_eq_false (hn j (by omega) h)
  by_cases he : lx[i].m.id = id
  ·have hpl : placeL A.mails id = (i : Nat) := zbP (by omega) (by rw [← hid]; exact decide_eq_true he) hn2
   clear hn hn2 hxm
   refine KGO ?_
   exact ⟨by rw [hpl], (k_w1.trans0 hK)⟩
  ·clear hn2 hxm
   refine KGO ?_
   refine ⟨i + 1, ⟨rfl, rfl, v_int (by simp), trivial⟩, ⟨hK, by omega, fun j hj h => ?_⟩, by dsimp only; omega⟩
   by_cases hji : j = i
   ·subst hji; exact he
   ·exact hn j hj (by omega)
 ·have hpl : placeL A.mails id = -1 := zbL fun j hj => by
   rw [← hxm j (by omega)]
   exact decide_eq_false (hn j (by omega) (by omega))
  clear hn hxm
  refine KGO ?_
  exact ⟨by rw [hpl], (k_w1.trans0 hK)⟩
end
structure RowTy {α : Type} (T E : TypeId) (c : α → List Value) (s bytes : Nat) : Prop where
 ht : Tryz.prog.underlying T = some (.slice E)
 hb : ∃ z, (Tryz.prog.info? E).map (fun i => (i.zero, i.size, i.bytes)) = some (some z, s, bytes) ∧ z.cells.size = s
 hs : 0 < s
 len : ∀ x, (c x).length = s
 one : ∀ x, ∀ u ∈ c x, u.oneCell' = true
abbrev OwnR {α : Type} (E : TypeId) (c : α → List Value) (s : Nat) (w : World) (B : Nat) (v : Value) (l : List α) : Prop := w.ownsRow B E s v l.length (l.flatMap c)
section
variable {α : Type} {T E : TypeId} {c : α → List Value} {s bytes : Nat} {w : World} {K : Value → World → Prop} {B : Nat} {v : Value} {l : List α} {cs : Array Bool}
theorem RowTy.app (ty : RowTy T E c s bytes) {a : Option Addr} {m cap : Nat} (r : List α) (h : OwnR E c s w B v l) (hB : B ≤ w.heap.size) (hm : m = r.length) (hr : 0 < m → ∃ g o, a = some ⟨g, o, none⟩ ∧ At w g o (r.flatMap c))
  (h63 : l.length + r.length ≤ 9223372036854775807) (hbytes : (l.length + r.length) * bytes ≤ 140737488355328) (k : ∀ v' w', OwnR E c s w' B v' (l ++ r) → Kp w w' (own_ v) → K v' w') :
  RunN Tryz.prog (builtin .append #[T, T] T cs [v, .slice a m cap].toArray) w K := by
 subst hm
 obtain ⟨z, hb, hz⟩ := ty.hb
 cases a with
 | none =>
  have h0 : r.length = 0 := by
   rcases Nat.eq_zero_or_pos r.length with h0 | h0
   ·exact h0
   ·obtain ⟨g, o, e, _⟩ := hr h0; cases e
  have hn := List.eq_nil_of_length_eq_zero h0
  subst hn
  refine RunN.appNone ty.ht hb h (k _ _ ?_ (Kp.refl _ _))
  rw [List.append_nil]; exact h
 | some a =>
  refine RunN.app ty.ht hb hz ty.hs h hB a r.length cap (r.flatMap c) (zaC c s ty.len r) (fun j u hj => ?_) (fun u hu => ?_) h63 hbytes fun v' w' h2 h3 => k v' w' ?_ ?_
  ·rcases Nat.eq_zero_or_pos r.length with h0 | h0
   ·rw [List.eq_nil_of_length_eq_zero h0] at hj; simp at hj
   ·obtain ⟨g, o, e, hat⟩ := hr h0
    injection e with e
    subst e
    rw [add_none]
    exact hat j u hj
  ·obtain ⟨x, _, hx⟩ := List.mem_flatMap.1 hu
   exact ty.one x u hx
  ·unfold OwnR
   rw [List.length_append, List.flatMap_append]
   exact h2
  ·exact ⟨h3.os, h3.tape, h3.output, h3.size, fun i hi hn => h3.block i hi fun e => hn e.symm⟩
theorem RowTy.app1 (ty : RowTy T E c s bytes) {b cap : Nat} (x : α) (h : OwnR E c s w B v l) (hB : B ≤ w.heap.size) (hx : At w b 0 (c x)) (h63 : l.length + 1 ≤ 9223372036854775807) (hbytes : (l.length + 1) * bytes ≤ 140737488355328)
  (k : ∀ v' w', OwnR E c s w' B v' (l ++ [x]) → Kp w w' (own_ v) → K v' w') : RunN Tryz.prog (builtin .append #[T, T] T cs [v, .slice (some ⟨b, 0, none⟩) 1 cap].toArray) w K :=
 ty.app [x] h hB rfl (fun _ => ⟨b, 0, rfl, by rw [List.flatMap_singleton]; exact hx⟩) h63 hbytes k
theorem zbc (E : TypeId) (c : α → List Value) (s : Nat) (hs : 0 < s) (w : World) : OwnR E c s (w.alloc (.cells #[] E)) w.heap.size (.slice (some ⟨w.heap.size, 0, none⟩) 0 0) [] := World.ownsRow_made w #[] 0 (Nat.le_refl _) (by decide) (by simp)
theorem zbw {g o : Nat} (hl : ∀ x, (c x).length = s) (h : At w g o (l.flatMap c)) (i : Nat) : At w g o ((l.take i).flatMap c) := fun j u hj => by
 rw [← zaQ c s hl] at hj
 refine h j u ?_
 rw [List.getElem?_take] at hj
 split at hj
 ·exact hj
 ·cases hj
theorem zbq {g o : Nat} (hl : ∀ x, (c x).length = s) (h : At w g o (l.flatMap c)) (i : Nat) : At w g (o + i * s) ((l.drop i).flatMap c) := fun j u hj => by
 rw [← zaZ c s hl, List.getElem?_drop] at hj
 rw [Nat.add_assoc]
 exact h _ u hj
theorem zep {f : Fr} {x : Operand} {w : World} (ty : RowTy T E c s bytes) (hx : ev f x = .int .i64 0) (k : K (.slice none 0 0) w) : RunV Tryz.prog (Instr.sliceAt T (.slice none 0 0) ((some x).map (ev f)) none none) w K :=
 by
 obtain ⟨z, hb, _⟩ := ty.hb
 obtain ⟨i, hi, _⟩ := zaV hb
 exact RunV.of (by simp [Instr.sliceAt, hx, Instr.slice, Instr.sliceBounds, go_sem, zaG ty.ht, zbf hi]) k
theorem zdF {f : Fr} {x : Operand} {w : World} (ty : RowTy T E c s bytes) (hx : ev f x = .int .i64 0) (k : K (.slice none 0 0) w) : RunV Tryz.prog (Instr.sliceAt T (.slice none 0 0) none ((some x).map (ev f)) none) w K :=
 by
 obtain ⟨z, hb, _⟩ := ty.hb
 obtain ⟨i, hi, _⟩ := zaV hb
 exact RunV.of (by simp [Instr.sliceAt, hx, Instr.slice, Instr.sliceBounds, go_sem, zaG ty.ht, zbf hi]) k
end
theorem tyI : RowTy 25 3 inC 1 8 := ⟨Tryz.underlying25, ⟨_, infoI, rfl⟩, by decide, lenI, fun x u hu => by rw [List.mem_singleton.1 hu]; rfl⟩
theorem tyT : RowTy 26 9 txC 1 16 := ⟨Tryz.underlying26, ⟨_, textInfo, rfl⟩, by decide, lenT, fun x u hu => by rw [List.mem_singleton.1 hu]; rfl⟩
theorem tyM : RowTy 32 42 mrC 38 112 := ⟨Tryz.underlying32, ⟨_, infoMl, rfl⟩, by decide, lenMl, fun x => List.all_eq_true.1 (by rfl)⟩
theorem tySrc : RowTy 33 76 srcC 2 32 := ⟨Tryz.underlying33, ⟨_, infoSrc, rfl⟩, by decide, lenSrc, fun x => List.all_eq_true.1 (by rfl)⟩
theorem tySn : RowTy 34 78 snC 2 24 := ⟨Tryz.underlying34, ⟨_, infoSn, rfl⟩, by decide, lenSn, fun x => List.all_eq_true.1 (by rfl)⟩
section
variable {w : World}
theorem zoS {h : Hd} {A : Acc} (id : Int) (ha : RowM w h.M.v A.mails) (hl : A.mails.length ≤ 1000000) : Calls Tryz.prog 22 #[.agg (accC h A).toArray, .int .i64 id] w fun e w' => ∃ y : Mr, e = .returned (.tuple #[.agg (mrC y).toArray, .bool (findL A.mails id).isSome]) ∧ y.m = (findL A.mails id).getD (default : Mr).m ∧ MailOk w' y ∧ Kp w w' n_ := by
 have ha0 := ha
 obtain ⟨lx, hm, hr, hx⟩ := ha
 have hlx : lx.length = A.mails.length := by rw [← hm, List.length_map]
 refine zaa (args := [.agg (accC h A).toArray, .int .i64 id]) Tryz.func22 rfl NL ?_; refine GW ?_
 obtain ⟨a_b1, v_b1, k_w1, z_w1, r_w1⟩ := new5 w 36 (accC h A)
 generalize w.alloc (.cells (List.toArray (accC h A)) 36) = w1 at *
 generalize hs_b1 : w.heap.size = b1 at *
 obtain ⟨a_b2, v_b2, k_w2, z_w2, r_w2⟩ := new5 w1 42 (zMl)
 generalize w1.alloc (.cells (List.toArray (zMl)) 42) = w2 at *
 generalize hs_b2 : w1.heap.size = b2 at *
 have a1 := zac a_b1 k_w2
 have kr2 := Kp.refl w2 n_
 refine KGO ?_
 refine CallS.of (Tryz.call53 _ _) (ziS (w := w2) (h := h) (A := A) id (ha0.keep (k_w1.trans0 k_w2)) (by omega)) ?_
 rintro e w3 ⟨rfl, k3⟩
 have K3 : Kp w w3 n_ := (k_w1.trans0 k_w2).trans0 k3
 have vr := v_b2.keep0 k3
 refine RT ?_
 rcases place_find A.mails id with ⟨hp, hf⟩ | ⟨i, hi, hp, hf, _, _⟩
 ·rw [hp, hf]
  refine KGO ?_
  refine RunV.of (zfg _) ?_
  refine KGO ?_
  refine SVK (mrC default) vr fun w4 vr k4 => ?_
  have hat := vr.at
  refine KGO ?_
  refine GW ?_
  refine KGO ?_
  refine GW ?_
  exact ⟨default, rfl, rfl, ⟨⟨none, 0, rfl, fun h => by cases h⟩, ⟨none, 0, rfl, fun h => by cases h⟩⟩, zae K3 k4 (by have := k_w1.size; omega)⟩
 ·rw [hp, hf]
  have hi2 : i < lx.length := by omega
  have hxm : lx[i].m = A.mails[i] := by simp [← hm]
  obtain ⟨a, cap, he, hrr⟩ := hr
  obtain ⟨gb, o, rfl, hgb, hat⟩ := hrr (by omega)
  have hrn : h.M.n = lx.length := by injection he
  have hra : h.M.a = some ⟨gb, o, none⟩ := by injection he
  have aa := zac a1 k3
  have hmo := (hx lx[i] (List.getElem_mem hi2)).keep K3
  unfold accC at aa
  rw [hrn, hra] at aa
  have kr3 := Kp.refl w3 n_
  have hat3 := zac hat K3
  clear a_b1 a1 kr2
  refine KGO ?_
  refine SVK (mrC lx[i]) vr fun w4 vr k4 => ?_
  have hat := vr.at
  refine KGO ?_
  refine GW ?_
  refine KGO ?_
  refine GW ?_
  have K4 : Kp w w4 n_ := zae K3 k4 (by have := k_w1.size; omega)
  exact ⟨lx[i], rfl, hxm, (hx _ (List.getElem_mem hi2)).keep K4, K4⟩
theorem inL_len' (l : List Ml) (b : Int) : (inL l b).length ≤ l.length := by
 unfold inL; rw [List.length_map]; exact List.length_filter_le _ _
theorem bsR1I (z : Int) (w : World) : (Instr.buildSlice 25 1 [(0, .int .i64 z)].toArray).run Tryz.prog w = .ok (.slice (some ⟨w.heap.size, 0, none⟩) 1 1) (w.alloc (.cells (List.toArray (inC z)) 3)) := by
 simp [Instr.buildSlice, go_sem, Tryz.runUnderlying25]
theorem bsR1T (z : ByteArray) (w : World) : (Instr.buildSlice 26 1 [(0, .string z)].toArray).run Tryz.prog w = .ok (.slice (some ⟨w.heap.size, 0, none⟩) 1 1) (w.alloc (.cells (List.toArray [.string z]) 9)) := by
 simp [Instr.buildSlice, go_sem, Tryz.runUnderlying26]
theorem ra_In {h : Hd} {A : Acc} (id : Int) (ha : RowM w h.M.v A.mails) (hl : A.mails.length ≤ 1000000) (hs : ∀ m ∈ A.mails, m.boxes.length ≤ 1000000) : Calls Tryz.prog 23 #[.agg (accC h A).toArray, .int .i64 id] w fun e w' => ∃ v, e = .returned v ∧ OwnI w' w.heap.size v (inL A.mails id) ∧ Kp w w' n_ := by
 obtain ⟨lx, hm, hr, hx⟩ := ha
 have hlx : lx.length = A.mails.length := by rw [← hm, List.length_map]
 refine zaa (args := [.agg (accC h A).toArray, .int .i64 id]) Tryz.func23 rfl NL ?_; refine GW ?_
 obtain ⟨a_b1, v_b1, k_w1, z_w1, r_w1⟩ := new5 w 36 (accC h A)
 generalize w.alloc (.cells (List.toArray (accC h A)) 36) = w1 at *
 generalize hs_b1 : w.heap.size = b1 at *
 obtain ⟨a, cap, he, hrr⟩ := hr
 injection he with e1 e2 e3
 have aa := a_b1
 unfold accC at aa
 rw [e1, e2, e3] at aa
 refine KGO ?_
 refine Loop.intro (ι := Nat × Value) (fun p => [(1, .int .i64 id), (2, .pointer (some ⟨b1, 0, none⟩)), (5, p.2), (6, .int .i64 (p.1 : Nat))])
  (fun p wr => Kp w1 wr n_ ∧ p.1 ≤ lx.length ∧ OwnI wr w1.heap.size p.2 (inL (A.mails.take p.1) id)) (fun p => lx.length - p.1) (0, .slice none 0 0) ⟨rfl, rfl, rfl, rfl, trivial⟩ ⟨Kp.refl _ _, Nat.zero_le _, World.ownsRow_nil _ _ _ _⟩ ?_
 rintro ⟨i, v⟩ gg wr ⟨hK, hi, ho⟩
 dsimp only at hi ho ⊢
 obtain ⟨va, vc, rfl⟩ := zab ho
 refine GW ?_
 refine KGO ?_
 by_cases hlt : i < lx.length
 ·have hlt2 : i < A.mails.length := by omega
  obtain ⟨gb, o, rfl, hgb, hat⟩ := hrr (by omega)
  have K0 := k_w1.trans0 hK
  have hat := zac hat K0
  have krr := Kp.refl wr n_
  have hxm : lx[i].m = A.mails[i] := by simp [← hm]
  have hmo := (hx lx[i] (List.getElem_mem hlt)).keep K0
  have hsi := hs A.mails[i] (List.getElem_mem hlt2)
  have htk := List.take_succ_eq_append_getElem hlt2
  have hsn := zjk (A.mails.take i) A.mails[i] id
  rw [← htk, ← hxm] at hsn
  have hll : (inL (A.mails.take i) id).length ≤ i := by
   refine Nat.le_trans (inL_len' _ _) ?_
   rw [List.length_take]; omega
  refine KGO ?_
  refine CallS.of (Tryz.call16 _ _) (znI (w := wr) lx[i].m.boxes id hmo.b (by rw [hxm]; omega)) ?_
  rintro e w5 ⟨rfl, k5⟩
  have K5 := hK.trans0 k5
  have ho5 := zaf ho k5
  have hat5 := zac hat k5
  have kr5 := Kp.refl w5 n_
  refine RT ?_
  by_cases hin : id ∈ lx[i].m.boxes
  ·rw [decide_eq_true hin]
   rw [if_pos hin] at hsn
   clear hat krr
   refine KGO ?_
   refine RunV.of (bsR1I _ _) ?_
   have k6 : Kp w5 (w5.alloc (.cells (List.toArray (inC lx[i].m.id)) 3)) n_ := (Kp.refl _ _).alloc _
   have h6 := zao w5 3 (inC lx[i].m.id)
   have ho6 := zaf ho5 k6
   generalize w5.alloc (.cells (List.toArray (inC lx[i].m.id)) 3) = w6 at *
   generalize w5.heap.size = g6 at *
   refine KGO ?_
   refine tyI.app1 lx[i].m.id ho6 (K5.trans0 k6).size h6 (by omega) (by omega) fun v' w' o' k' => ?_
   obtain ⟨va', vc', rfl⟩ := zab o'
   refine KGO ?_
   have o'' : OwnI w' w1.heap.size (.slice va' (inL (A.mails.take i) id ++ [lx[i].m.id]).length vc') (inL (A.mails.take (i + 1)) id) := by rw [hsn]; exact o'
   exact ⟨(i + 1, _), ⟨rfl, rfl, rfl, v_int (by simp), trivial⟩, ⟨zaq ho6 k' w1 (K5.trans0 k6) (Nat.le_refl _), by dsimp only; omega, o''⟩, by dsimp only; omega⟩
  ·rw [decide_eq_false hin]
   rw [if_neg hin] at hsn
   refine KGO ?_
   exact ⟨(i + 1, _), ⟨rfl, rfl, rfl, v_int (by simp), trivial⟩, ⟨K5, by dsimp only; omega, by dsimp only; rw [hsn]; exact ho5⟩, by dsimp only; omega⟩
 ·have ht : A.mails.take i = A.mails := List.take_of_length_le (by omega)
  rw [ht] at ho ⊢
  refine KGO ?_
  exact ⟨_, rfl, zaj ho (by have := k_w1.size; omega), k_w1.trans0 hK⟩
end
end Go.Proofs.YtohhkegmbgancaaGreatDoor
