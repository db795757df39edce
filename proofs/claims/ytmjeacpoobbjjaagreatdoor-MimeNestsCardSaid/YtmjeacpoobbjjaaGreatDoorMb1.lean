/- Helper lemmas that the proved statement rests on; no conditions of their own. -/
import Derived.Test.YtmjeacpoobbjjaaGreatDoorGYc9
set_option linter.unusedVariables false
set_option maxHeartbeats 8000000
set_option maxRecDepth 100000
namespace Go.Proofs.YtmjeacpoobbjjaaGreatDoor
open Go.Shelf Go.RowKit Go.Pw Go.Vc Go.Cs Go.Lib Go.Tk Go.Hd Go.Ty Go.Me
theorem zfF {s p : List UInt8} (h : hasPrefix s p = true) : trimPrefix s p = s.drop p.length := by unfold trimPrefix; rw [if_pos h]
section
variable {w : World}
theorem zgp (l b : List UInt8) (hl : l.length ≤ 100000000) (hb : b.length ≤ 100000000) (w : World) : Calls Tryz.prog 76 #[.string (str l), .string (str b)] w fun e w' => e = .returned (.tuple #[.bool (boundM l b).1, .bool (boundM l b).2]) ∧ Kp w w' n_ := by
 have hz := zae l
 have hdf : boundM l b = if hasPrefix l ([45, 45] ++ b) = true then (decide (trimS (bareH (trimPrefix (l.drop (b.length + 2)) [45, 45])) [32, 9] = []), hasPrefix (l.drop (b.length + 2)) [45, 45]) else (false, false) := rfl
 have hbl : ([45, 45] ++ b).length = b.length + 2 := by simp
 refine zaa (args := [.string (str l), .string (str b)]) Tryz.func76 rfl NL ?_; refine GW ?_
 refine RunV.cat (by rw [zae]; show 2 + _ ≤ _; omega) ?_
 rw [show (⟨#[45, 45]⟩ : ByteArray) ++ str b = str ([45, 45] ++ b) from zaF [45, 45] b]
 refine KGO ?_
 refine CallS.of (Tryz.call108 _ _) (zdl (str l) (str ([45, 45] ++ b)) w) ?_
 rintro e w1 ⟨rfl, rfl⟩
 rw [L_str, L_str]
 rw [hdf]
 cases hp : hasPrefix l ([45, 45] ++ b)
 ·rw [if_neg (by simp)]
  refine RT ?_
  refine KGO ?_
  exact ⟨rfl, Kp.refl _ _⟩
 ·rw [if_pos rfl, zfF hp, hbl]
  obtain ⟨R, hR⟩ : ∃ R, R = l.drop (b.length + 2) := ⟨_, rfl⟩
  have hRl : R.length ≤ l.length := by rw [hR, List.length_drop]; omega
  rw [← hR]
  refine RT ?_
  refine KGO ?_
  refine CallS.of (Tryz.call108 _ _) (zdl (str R) ⟨#[45, 45]⟩ w) ?_
  rintro e w1 ⟨rfl, rfl⟩
  rw [L_str, show L ⟨#[45, 45]⟩ = [45, 45] from rfl]
  obtain ⟨T, hT⟩ : ∃ T, T = trimPrefix R [45, 45] := ⟨_, rfl⟩
  have hTl : T.length ≤ R.length := by
   rw [hT]; unfold trimPrefix; split
   ·rw [List.length_drop]; omega
   ·exact Nat.le_refl _
  rw [← hT]
  refine RT ?_
  refine KGO ?_
  refine CallS.of (Tryz.call64 _ _) (zda (str T) ⟨#[10]⟩ w (by rw [zae]; omega)) ?_
  rintro e w1 ⟨rfl, rfl⟩
  rw [L_str, show L ⟨#[10]⟩ = [10] from rfl]
  have hbr : bareH T = if hasSuffix T [10] = true then trimSuffix (trimSuffix T [10]) [13] else T := rfl
  have hbl2 := zcp T
  refine RT ?_
  cases hc : hasSuffix T [10]
  ·rw [hc, if_neg (by simp)] at hbr
   rw [hbr]
   refine KGO ?_
   refine CallS.of (Tryz.call71 _ _) (ziv (str T) w (by rw [zae]; omega)) ?_
   rintro e w2 ⟨rfl, k2⟩
   rw [L_str]
   refine RT ?_
   refine KGO ?_
   exact ⟨by rw [show decide (str (trimS T [32, 9]) = ⟨#[]⟩) = decide (trimS T [32, 9] = []) from decide_eq_decide.2 (zaD (b := []))], k2⟩
  ·rw [hc, if_pos rfl] at hbr
   have hsl : (trimSuffix T [10]).length ≤ T.length := by unfold trimSuffix; split <;> simp
   rw [hbr]
   refine KGO ?_
   refine CallS.of (Tryz.call65 _ _) (zcK (str (trimSuffix T [10])) ⟨#[13]⟩ w (by rw [zae]; omega)) ?_
   rintro e w1 ⟨rfl, rfl⟩
   rw [L_str, show L ⟨#[13]⟩ = [13] from rfl, ← hbr]
   refine RT ?_
   refine KGO ?_
   refine CallS.of (Tryz.call71 _ _) (ziv (str (bareH T)) w (by rw [zae]; omega)) ?_
   rintro e w2 ⟨rfl, k2⟩
   rw [L_str]
   refine RT ?_
   refine KGO ?_
   exact ⟨by rw [show decide (str (trimS (bareH T) [32, 9]) = ⟨#[]⟩) = decide (trimS (bareH T) [32, 9] = []) from decide_eq_decide.2 (zaD (b := []))], k2⟩
theorem zkh (s : ByteArray) (a : Int) (w : World) : Calls Tryz.prog 75 #[.string s, .int .i64 a] w fun e w' => ∃ bs bf, e = .returned (.func (.func 107) #[] #[.pointer (some ⟨bf, 0, none⟩), .pointer (some ⟨bs, 0, none⟩)]) ∧
  VarK w' bs 9 [.string s] ∧ VarK w' bf 3 [.int .i64 a] ∧ w.heap.size ≤ bs ∧ bs < bf ∧ Kp w w' n_ := by
 refine zaa (args := [.string s, .int .i64 a]) Tryz.func75 rfl NL ?_; refine GW ?_
 obtain ⟨a_b1, v_b1, k_w1, z_w1, r_w1⟩ := new5 w 9 ([.string s])
 generalize w.alloc (.cells (List.toArray ([.string s])) 9) = w1 at *
 generalize hs_b1 : w.heap.size = b1 at *
 obtain ⟨a_b2, v_b2, k_w2, z_w2, r_w2⟩ := new5 w1 3 ([.int .i64 a])
 generalize w1.alloc (.cells (List.toArray ([.int .i64 a])) 3) = w2 at *
 generalize hs_b2 : w1.heap.size = b2 at *
 have v1 := v_b1.keep0 k_w2
 refine KGO ?_
 exact ⟨b1, b2, rfl, v1, v_b2, by omega, by omega, k_w1.trans0 k_w2⟩
abbrev lnE (x : Nat × Nat) : List Value := [.int .i64 (x.1 : Nat), .int .i64 (x.2 : Nat)]
theorem zlk {LL bs bf : Nat} (s : List UInt8) (a0 : Nat) (hs : s.length ≤ 100000000) (ha : a0 ≤ s.length)
  (J Jx : List (Nat × Nat) → World → Prop) (hJ : ∀ pre W, J pre W → VarK W bs 9 [.string (str s)]) (hJk : ∀ pre W W', J pre W → Kp W W' (one_ bf) → J pre W')
  (hY : ∀ pre x W, J pre W → (∃ rest, pre ++ x :: rest = linesM s a0) → YieldS Tryz.prog LL (lnE x) W fun v W' => (v = .bool true ∧ J (pre ++ [x]) W' ∧ SameB (one_ bf) W W') ∨ (v = .bool false ∧ Jx (pre ++ [x]) W'))
  (v2 : VarK w bf 3 [.int .i64 (a0 : Nat)]) (h0 : J [] w) :
  Calls Tryz.prog 107 #[.func (.yield LL) #[] #[], .pointer (some ⟨bf, 0, none⟩), .pointer (some ⟨bs, 0, none⟩)] w fun e W' => (∃ v, e = .returned v) ∧ ((∃ xs, xs = linesM s a0 ∧ J xs W') ∨ ∃ pre, Jx pre W') := by
 have hz := zae s
 refine zaa (args := [.func (.yield LL) #[] #[], .pointer (some ⟨bf, 0, none⟩), .pointer (some ⟨bs, 0, none⟩)]) Tryz.func107 rfl NL ?_; refine GW ?_
 refine Loop.intro (ι := Nat × List (Nat × Nat)) (fun i => [(0, .func (.yield LL) #[] #[]), (1, .pointer (some ⟨bf, 0, none⟩)), (2, .pointer (some ⟨bs, 0, none⟩))])
  (fun i wr => VarK wr bf 3 [.int .i64 (i.1 : Nat)] ∧ J i.2 wr ∧ i.2 ++ linesM s i.1 = linesM s a0 ∧ i.1 ≤ s.length) (fun i => s.length - i.1) (a0, []) ⟨rfl, rfl, rfl, trivial⟩ ⟨v2, h0, rfl, ha⟩ ?_
 clear v2 h0
 rintro ⟨a, pre⟩ g wr ⟨v2, hj, he, hi⟩
 dsimp only at v2 hj he hi ⊢
 have aF := v2.at
 have aS := (hJ _ _ hj).at
 have q0 := Kp.refl wr n_
 refine GW ?_
 by_cases hlt : a < s.length
 ·rw [zbx hlt] at he
  have hin := zct hlt
  have hei := end_idx (s.drop a)
  rw [List.length_drop] at hei
  refine KGO ?_
  rw [zav]
  refine CallS.of (Tryz.call63 _ _) (zaG (str (s.drop a)) 10 wr) ?_
  rintro e w1 ⟨rfl, rfl⟩
  rw [L_str]
  obtain ⟨t, ht⟩ : ∃ t, t = a + endH (s.drop a) := ⟨_, rfl⟩
  rw [← ht] at he hin
  rcases hei with ⟨h1, h2⟩ | ⟨n, h1, h2, h3⟩
  ·refine RT ?_
   refine KGO ?_
   rw [show (((str s).size : Nat) : Int) = ((t : Nat) : Int) by omega]
   have hy := hY pre (a, t) wr hj ⟨_, he⟩
   refine YieldS.of hy ?_
   rintro v w2 (⟨rfl, hj2, hsame⟩ | ⟨rfl, hj2⟩)
   ·have v22 : VarK w2 bf 3 [.int .i64 (a : Nat)] := by
     unfold VarK at v2 ⊢
     rw [hsame bf rfl]; exact v2
    refine GW ?_
    refine KGO ?_
    refine Store.cellK (i := 0) v22 (by simp) (by rfl) ⟨rfl, by simp, by simp⟩ fun w3 v3 k3 => ?_
    refine KGO ?_
    exact ⟨(t, pre ++ [(a, t)]), ⟨rfl, rfl, rfl, trivial⟩, ⟨v3, hJk _ _ _ hj2 k3, by dsimp only; rw [List.append_assoc]; exact he, by dsimp only; omega⟩, by dsimp only; omega⟩
   ·refine GW ?_
    refine KGO ?_
    exact ⟨⟨_, rfl⟩, .inr ⟨_, hj2⟩⟩
  ·rw [h1]
   refine RT ?_
   refine KGO ?_
   rw [show ((a : Nat) : Int) + ((n : Nat) : Int) + 1 = ((t : Nat) : Int) by omega]
   have hy := hY pre (a, t) wr hj ⟨_, he⟩
   refine YieldS.of hy ?_
   rintro v w2 (⟨rfl, hj2, hsame⟩ | ⟨rfl, hj2⟩)
   ·have v22 : VarK w2 bf 3 [.int .i64 (a : Nat)] := by
     unfold VarK at v2 ⊢
     rw [hsame bf rfl]; exact v2
    refine GW ?_
    refine KGO ?_
    refine Store.cellK (i := 0) v22 (by simp) (by rfl) ⟨rfl, by simp, by simp⟩ fun w3 v3 k3 => ?_
    refine KGO ?_
    exact ⟨(t, pre ++ [(a, t)]), ⟨rfl, rfl, rfl, trivial⟩, ⟨v3, hJk _ _ _ hj2 k3, by dsimp only; rw [List.append_assoc]; exact he, by dsimp only; omega⟩, by dsimp only; omega⟩
   ·refine GW ?_
    refine KGO ?_
    exact ⟨⟨_, rfl⟩, .inr ⟨_, hj2⟩⟩
 ·rw [zaW hlt, List.append_nil] at he
  refine KGO ?_
  exact ⟨⟨_, rfl⟩, .inl ⟨pre, he, hj⟩⟩
end
end Go.Proofs.YtmjeacpoobbjjaaGreatDoor
