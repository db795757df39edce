/- Helper lemmas that the proved statement rests on; no conditions of their own. -/
import Derived.Laws.StructEq
import Derived.Maps.AppendAt
import Derived.Lib.AppendStr
import Derived.Lib.IndexAny
import Derived.Test.YtennokckmjcefaaGreatDoorGIterK
set_option linter.unusedVariables false
set_option maxHeartbeats 4000000
set_option maxRecDepth 100000
namespace Go.Proofs.YtennokckmjcefaaGreatDoor
open Go.RowKit Go.Pw Go.Vc Go.Cs Go.Lib
section
variable {w : World}
theorem zcl (L0 : List UInt8) (ps : List (Nat × Nat)) (f : Option Nat) (m : Nat) :
  (if frI f < 0 then ps.map (mk L0) else ps.map (mk L0) ++ [(foldL (cutL L0 ((frI f).toNat, m)), (frI f).toNat, m)]) = (ps ++ close f m).map (mk L0) := by
 cases f with
 | none => rw [if_pos (by simp [frI])]; simp [close]
 | some a => rw [if_neg (by simp [frI])]; simp [close, frI, mk]
theorem zoc (s : ByteArray) (hC : CutTab w) (hF : FoldTab w) (hs : s.size ≤ 10000000) : Calls Tryz.prog 86 #[.string s] w fun e w' => ∃ v, e = .returned v ∧ Wds w' w.heap.size v (wordsL (L s)) ∧ Kp w w' n_ := by
 have hl := L_len s
 refine zaa (args := [.string s]) Tryz.func86 rfl NL ?_; refine GW ?_
 have v1 := Var1.alloc_new w 9 (.string s)
 have k1 : Kp w (w.alloc (.cells #[.string s] 9)) n_ := (Kp.refl _ _).alloc _
 have z1 : (w.alloc (.cells #[.string s] 9)).heap.size = w.heap.size + 1 := by simp
 generalize w.alloc (.cells #[.string s] 9) = w1 at *
 have v2 := Var1.alloc_new w1 113 (.slice none 0 0)
 have k2 : Kp w1 (w1.alloc (.cells #[.slice none 0 0] 113)) n_ := (Kp.refl _ _).alloc _
 have z2 : (w1.alloc (.cells #[.slice none 0 0] 113)).heap.size = w.heap.size + 2 := by simp [z1]
 generalize w1.alloc (.cells #[.slice none 0 0] 113) = w2 at *
 have v3 := Var1.alloc_new w2 3 (.int .i64 0)
 have k3 : Kp w2 (w2.alloc (.cells #[.int .i64 0] 3)) n_ := (Kp.refl _ _).alloc _
 have z3 : (w2.alloc (.cells #[.int .i64 0] 3)).heap.size = w.heap.size + 3 := by simp [z2]
 generalize w2.alloc (.cells #[.int .i64 0] 3) = w3 at *
 rw [z1, z2] at *
 have st0 : WSt w w3 w.heap.size (w.heap.size + 1) (w.heap.size + 2) s (.slice none 0 0) [] 0 :=
  ⟨(k1.trans0 k2).trans0 k3, Nat.le_refl _, by omega, by omega, (v1.keep k2 id).keep k3 id, v2.keep k3 id, v3, World.ownsRow_nil _ _ _ _⟩
 refine Store.one (by rfl) ⟨rfl, by simp, by simp⟩ v3.cell v3.frozen ?_
 have st1 := st0.setFrom (-1)
 have z4 : (w3.setCell ⟨w.heap.size + 2, 0, none⟩ (.int .i64 (-1))).heap.size = w.heap.size + 3 := by simp [World.setCell, z3]
 generalize w3.setCell ⟨w.heap.size + 2, 0, none⟩ (.int .i64 (-1)) = w4 at *
 have c1 := st1.cs.cell
 refine GO ?_
 refine RunV.rangeS Tryz.underlying9 ?_
 have hi5 := heap_alloc_new w4 (.stringIter s 0)
 have st5 := st1.keep ((Kp.refl w4 n_).alloc (.stringIter s 0))
 rw [z4] at *
 generalize w4.alloc (.stringIter s 0) = w5 at *
 refine GW ?_
 refine Loop.intro (ι := Nat × Value × List (Nat × Nat) × Option Nat) (fun i => [(1, .pointer (some ⟨w.heap.size, 0, none⟩)), (3, .pointer (some ⟨w.heap.size + 1, 0, none⟩)), (4, .pointer (some ⟨w.heap.size + 2, 0, none⟩)),
   (5, .func (.func 146) #[] #[.pointer (some ⟨w.heap.size + 2, 0, none⟩), .pointer (some ⟨w.heap.size + 1, 0, none⟩), .pointer (some ⟨w.heap.size, 0, none⟩)]), (12, .pointer (some ⟨w.heap.size + 3, 0, none⟩))])
  (fun i wr => i.1 ≤ s.size ∧ WSt w wr w.heap.size (w.heap.size + 1) (w.heap.size + 2) s i.2.1 (i.2.2.1.map (mk (L s))) (frI i.2.2.2) ∧ wr.heap[w.heap.size + 3]? = some (.stringIter s i.1) ∧
   wd (us (L s)) 0 none = i.2.2.1 ++ wd (us ((L s).drop i.1)) i.1 i.2.2.2 ∧ i.2.2.1.length ≤ 2 * i.1 ∧ ∀ a, i.2.2.2 = some a → a ≤ i.1) (fun i => s.size - i.1) (0, .slice none 0 0, [], none) ⟨rfl, rfl, rfl, by simp [upd], rfl, trivial⟩
  ⟨Nat.zero_le _, st5, hi5, rfl, Nat.le_refl _, fun a h => by cases h⟩ ?_
 rintro ⟨n, v, ps, f⟩ g wr ⟨hn, st, hi, he, hpl, hfa⟩
 dsimp only at hn st hi he hpl hfa ⊢
 refine GW ?_
 have hfr1 : -1 ≤ frI f := by
  cases f with
  | none => exact Int.le_refl _
  | some a => exact Int.le_trans (by decide) (Int.natCast_nonneg a)
 have hfrn : frI f ≤ n := by
  cases f with
  | none => exact Int.le_trans (by decide) (Int.natCast_nonneg n)
  | some a => exact Int.ofNat_le.2 (hfa a rfl)
 by_cases hlt : n < s.size
 ·refine RunV.nextS hi hlt ?_
  have hne : (L s).drop n ≠ [] := by rw [← L_from]; exact L_ne (by simp; omega)
  have hw := decodeL_width ((L s).drop n)
  have hle := decodeL_le _ hne
  have hsc := zoS _ hne
  have hru := decodeL_rune ((L s).drop n)
  rw [List.length_drop] at hle
  rw [zcf _ hne, List.drop_drop] at he
  have hwh : (decodeL ((L s).drop n)).1 ≠ 65533 → (decodeL ((L s).drop n)).2 = (enc (decodeL ((L s).drop n)).1).length := fun hc => by
   rcases dec_whole _ hne with h | h
   ·rw [h] at hc; exact (hc rfl).elim
   ·exact h.2.2.1
  have hel := zdk (decodeL ((L s).drop n)).1
  have st2 := st.iter (o := .stringIter s (n + (decodeL ((L s).drop n)).2)) hi (by omega)
  have hi2 : (setO wr (w.heap.size + 3) (.stringIter s (n + (decodeL ((L s).drop n)).2))).heap[w.heap.size + 3]? = some (.stringIter s (n + (decodeL ((L s).drop n)).2)) := zeA _ (zbm hi)
  generalize setO wr (w.heap.size + 3) (.stringIter s (n + (decodeL ((L s).drop n)).2)) = w2 at *
  rw [zhi] at he
  generalize (decodeL ((L s).drop n)).1 = c at *
  generalize (decodeL ((L s).drop n)).2 = k at *
  refine GO ?_
  refine CallS.of (Tryz.call148 _ _) (zmh (c : Int) w2) ?_
  rintro e w3 ⟨rfl, rfl⟩
  rw [zlJ c hsc]
  refine RT ?_
  refine GO ?_
  rw [wrap_i64 _ (by omega)]
  refine CallS.of (Tryz.call149 _ _) (zky (c : Int) (hC.keep st2.k)) ?_
  rintro e w3 ⟨rfl, k3⟩
  have hki : kindI (c : Int) = kindN c := by unfold kindI; rw [if_neg (by omega)]; rfl
  rw [hki]
  have hk2 := zla c
  have hkb : c = 65533 → kindN c = 0 := fun h => by rw [h]; exact zjP
  refine RT ?_
  have st3 := st2.keep k3
  have hi3 := IterKept.keep k3 _ _ _ hi2
  have hcl : (close f n).length ≤ 1 := by cases f <;> simp [close]
  have hlen : (ps.map (mk (L s))).length ≤ 100000000 := by rw [List.length_map]; omega
  generalize hq : kindN c = q at *
  have zero : ∀ (w6 : World) (v' : Value), q = 0 → WSt w w6 w.heap.size (w.heap.size + 1) (w.heap.size + 2) s v' ((ps ++ close f n).map (mk (L s))) (-1) → w6.heap[w.heap.size + 3]? = some (.stringIter s (n + k)) →
    n + k ≤ s.size ∧ WSt w w6 w.heap.size (w.heap.size + 1) (w.heap.size + 2) s v' ((ps ++ close f n).map (mk (L s))) (frI none) ∧ w6.heap[w.heap.size + 3]? = some (.stringIter s (n + k)) ∧
    wd (us (L s)) 0 none = (ps ++ close f n) ++ wd (us ((L s).drop (n + k))) (n + k) none ∧ (ps ++ close f n).length ≤ 2 * (n + k) ∧ ∀ a, (none : Option Nat) = some a → a ≤ n + k := by
   intro w6 v' h0 h6 hi6
   refine ⟨by omega, h6, hi6, by rw [he, h0, wd_0, List.append_assoc], by rw [List.length_append]; omega, fun a h => by cases h⟩
  by_cases hc : c = 65533
  ·have h0 : q = 0 := hkb hc
   refine GO ?_
   refine CallS.of (Tryz.call146 _ _) (zcr st3 hF (by omega) n hn hfrn hfr1 hlen) ?_
   rintro e w6 ⟨rfl, ⟨v', st6⟩, hk6⟩
   rw [zcl] at st6
   refine RT ?_
   refine GO ?_
   exact ⟨(n + k, v', ps ++ close f n, none), ⟨rfl, rfl, rfl, rfl, rfl, trivial⟩, zero w6 v' h0 st6 (hk6 _ _ _ hi3), by dsimp only; omega⟩
  have hkk := hwh hc
  have h012 : q = 0 ∨ q = 1 ∨ q = 2 := by omega
  rcases h012 with h0 | h1 | h2
  ·refine GO ?_
   refine CallS.of (Tryz.call146 _ _) (zcr st3 hF (by omega) n hn hfrn hfr1 hlen) ?_
   rintro e w6 ⟨rfl, ⟨v', st6⟩, hk6⟩
   rw [zcl] at st6
   refine RT ?_
   refine GO ?_
   exact ⟨(n + k, v', ps ++ close f n, none), ⟨rfl, rfl, rfl, rfl, rfl, trivial⟩, zero w6 v' h0 st6 (hk6 _ _ _ hi3), by dsimp only; omega⟩
  ·have c3 := st3.cf.cell
   subst h1
   cases f with
   | none =>
    have c3 : w3.cell? ⟨w.heap.size + 2, 0, none⟩ = some (.int .i64 (-1)) := c3
    refine GO ?_
    refine Store.one (by rfl) ⟨rfl, by simp, by simp⟩ c3 st3.cf.frozen ?_
    have st6 := st3.setFrom (n : Int)
    have hi6 := IterKept.set st3.cf (.int .i64 (n : Int)) _ _ _ hi3
    generalize w3.setCell ⟨w.heap.size + 2, 0, none⟩ (.int .i64 (n : Int)) = w6 at *
    refine GO ?_
    exact ⟨(n + k, v, ps, some n), ⟨rfl, rfl, rfl, rfl, rfl, trivial⟩, ⟨by dsimp only; omega, st6, hi6, by rw [he, wd_1n], by dsimp only; omega, fun a h => by injection h with h; dsimp only; omega⟩, by dsimp only; omega⟩
   | some a =>
    have ha := hfa a rfl
    have c3 : w3.cell? ⟨w.heap.size + 2, 0, none⟩ = some (.int .i64 (a : Int)) := c3
    rw [wd_1s] at he
    by_cases h40 : 40 < n + k - a
    ·rw [if_pos h40] at he
     refine GO ?_
     refine CallS.of (Tryz.call146 _ _) (zcr st3 hF (by omega) n hn hfrn hfr1 hlen) ?_
     rintro e w6 ⟨rfl, ⟨v', st6⟩, hk6⟩
     rw [zcl] at st6
     refine RT ?_
     have c6 := st6.cf.cell
     refine GO ?_
     refine Store.one (by rfl) ⟨rfl, by simp, by simp⟩ c6 st6.cf.frozen ?_
     have st7 := st6.setFrom (n : Int)
     have hi7 := IterKept.set st6.cf (.int .i64 (n : Int)) _ _ _ (hk6 _ _ _ hi3)
     generalize w6.setCell ⟨w.heap.size + 2, 0, none⟩ (.int .i64 (n : Int)) = w7 at *
     refine GO ?_
     exact ⟨(n + k, v', ps ++ close (some a) n, some n), ⟨rfl, rfl, rfl, rfl, rfl, trivial⟩, ⟨by dsimp only; omega, st7, hi7, by rw [he, List.append_assoc]; rfl, by rw [List.length_append]; dsimp only; omega, fun x h => by injection h with h; dsimp only; omega⟩, by dsimp only; omega⟩
    ·rw [if_neg h40] at he
     refine GO ?_
     exact ⟨(n + k, v, ps, some a), ⟨rfl, rfl, rfl, rfl, rfl, trivial⟩, ⟨by dsimp only; omega, st3, hi3, he, by dsimp only; omega, fun x h => by injection h with h; dsimp only; omega⟩, by dsimp only; omega⟩
  ·subst h2
   refine GO ?_
   refine CallS.of (Tryz.call146 _ _) (zcr st3 hF (by omega) n hn hfrn hfr1 hlen) ?_
   rintro e w6 ⟨rfl, ⟨v', st6⟩, hk6⟩
   rw [zcl] at st6
   refine RT ?_
   have c6 := st6.cf.cell
   refine GO ?_
   refine Store.one (by rfl) ⟨rfl, by simp, by simp⟩ c6 st6.cf.frozen ?_
   have st7 := st6.setFrom (frI (some n))
   have hi7 := IterKept.set st6.cf (.int .i64 (n : Int)) _ _ _ (hk6 _ _ _ hi3)
   have st7 : WSt w (w6.setCell ⟨w.heap.size + 2, 0, none⟩ (.int .i64 (n : Int))) w.heap.size (w.heap.size + 1) (w.heap.size + 2) s v' ((ps ++ close f n).map (mk (L s))) (frI (some n)) := st7
   generalize w6.setCell ⟨w.heap.size + 2, 0, none⟩ (.int .i64 (n : Int)) = w7 at *
   refine GO ?_
   rw [show ((n : Int) + ((enc c).length : Int)) = ((n + k : Nat) : Int) by omega]
   refine CallS.of (Tryz.call146 _ _) (zcr st7 hF (by omega) (n + k) (by omega) (Int.ofNat_le.2 (Nat.le_add_right n k)) (Int.le_trans (by decide) (Int.natCast_nonneg n)) (by rw [List.length_map, List.length_append]; omega)) ?_
   rintro e w8 ⟨rfl, ⟨v8, st8⟩, hk8⟩
   rw [zcl] at st8
   refine RT ?_
   refine GO ?_
   exact ⟨(n + k, v8, (ps ++ close f n) ++ close (some n) (n + k), none), ⟨rfl, rfl, rfl, rfl, rfl, trivial⟩, ⟨by dsimp only; omega, st8, hk8 _ _ _ hi7, by rw [he, wd_2]; simp [close], by rw [List.length_append, List.length_append]; show ps.length + (close f n).length + 1 ≤ _; dsimp only; omega, fun x h => by cases h⟩, by dsimp only; omega⟩
 ·refine RunV.nextE hi hlt ?_
  have hn0 : (L s).drop n = [] := List.drop_eq_nil_of_le (by omega)
  have hnn : n = s.size := by omega
  have c1 := st.cs.cell
  have c3 := st.co.cell
  refine GO ?_
  rw [hnn] at hfrn
  refine CallS.of (Tryz.call146 _ _) (zcr st hF (by omega) s.size (Nat.le_refl _) hfrn hfr1 (by rw [List.length_map]; omega)) ?_
  rintro e w6 ⟨rfl, ⟨v', st6⟩, _⟩
  rw [zcl] at st6
  obtain ⟨a6, c6, rfl⟩ := zab st6.row
  refine RT ?_
  have o6 := st6.co.cell
  refine GO ?_
  rw [hn0, zdO, hnn] at he
  refine ⟨_, rfl, ?_, st6.k⟩
  rw [zoz, he]
  exact st6.row
end
def Rd (w : World) (v : Value) (n : Nat) (xs : List Value) : Prop := ∃ a cap, v = .slice a n cap ∧ (0 < n → ∃ g, a = some ⟨g, 0, none⟩ ∧ g < w.heap.size ∧ At w g 0 xs)
theorem zsH {w : World} {B s n : Nat} {e : TypeId} {v : Value} {xs : List Value} (h : w.ownsRow B e s v n xs) : Rd w v n xs := by
 obtain ⟨a, cap, rfl⟩ := zab h
 exact ⟨a, cap, rfl, fun h0 => let ⟨g, h1, _, h3, h4⟩ := zia h h0; ⟨g, h1, h3, h4⟩⟩
theorem Rd.keep {w w' : World} {v : Value} {n : Nat} {xs : List Value} (h : Rd w v n xs) (k : Kp w w' n_) : Rd w' v n xs := by
 obtain ⟨a, cap, rfl, h⟩ := h
 exact ⟨a, cap, rfl, fun h0 => let ⟨g, h1, h3, h4⟩ := h h0; ⟨g, h1, Nat.lt_of_lt_of_le h3 k.size, zbH h4 k⟩⟩
theorem zjI {α : Type} (f : α → List Value) (n : Nat) (hf : ∀ x, (f x).length = n) : ∀ (l : List α) (i j : Nat) (x : α), l[i]? = some x → j < n → (l.flatMap f)[i * n + j]? = (f x)[j]?
 | [], i, j, x, h, _ => by simp at h
 | y :: r, 0, j, x, h, hj => by
  simp at h; subst h
  rw [List.flatMap_cons, List.getElem?_append_left (by rw [hf]; omega)]; simp
 | y :: r, i + 1, j, x, h, hj => by
  rw [List.flatMap_cons, List.getElem?_append_right (by rw [hf, Nat.add_mul]; omega), hf, show (i + 1) * n + j - n = i * n + j by rw [Nat.add_mul]; omega]
  exact zjI f n hf r i j x (by simpa using h) hj
theorem zrz {w : World} {g : Nat} {l : List Wd} (h : At w g 0 (l.flatMap wordCells)) {i : Nat} (hi : i < l.length) : At w g (0 + i * 3) (wordCells l[i]) := fun j v hj => by
 have h3 : j < 3 := (List.getElem?_eq_some_iff.1 hj).1
 rw [Nat.add_assoc]
 exact h (i * 3 + j) v ((zjI wordCells 3 (fun _ => rfl) l i j _ (List.getElem?_eq_getElem hi) h3).trans hj)
def sv (s : List UInt8) : Value := .string (str s)
def Txs (w : World) (B : Nat) (v : Value) (l : List (List UInt8)) : Prop := w.ownsRow B 9 1 v l.length (l.map sv)
theorem stringInfo : (Tryz.prog.info? 9).map (fun i => (i.zero, i.size, i.bytes)) = some (some (.string ⟨#[]⟩), 1, 16) := by kernel_rfl
theorem zlq (s : ByteArray) (w : World) : (Instr.buildSlice 48 1 [(0, .string s)].toArray).run Tryz.prog w = .ok (.slice (some ⟨w.heap.size, 0, none⟩) 1 1) (w.alloc (.cells #[.string s] 9)) := by
 simp [Instr.buildSlice, go_sem, Tryz.runUnderlying48]
theorem zoO {w : World} {K : Value → World → Prop} {B : Nat} {v : Value} {l : List (List UInt8)} {cs : Array Bool} (h : Txs w B v l) (hB : B ≤ w.heap.size) (x : List UInt8) (hl : l.length ≤ 1000000000)
  (k : ∀ v' w', Txs w' B v' (l ++ [x]) → (w.alloc (.cells #[sv x] 9)).grownBy w' v.ownBlock → K v' w') :
  RunN Tryz.prog (builtin .append #[48, 48] 48 cs [v, .slice (some ⟨w.heap.size, 0, none⟩) 1 1].toArray) (w.alloc (.cells #[sv x] 9)) K := by
 refine RunN.app Tryz.underlying48 stringInfo rfl (by decide) (zac h ((Kp.refl _ _).alloc _)) (Nat.le_trans hB ((Kp.refl w n_).alloc _).size) ⟨w.heap.size, 0, none⟩ 1 1 [sv x] rfl (zfP _ _ _) (by simp [sv, Value.oneCell']) (by omega) (by omega) fun v' w' h2 h3 => k v' w' ?_ h3
 unfold Txs
 rw [List.length_append, List.map_append]
 simpa using h2
theorem zqI : ∀ (u : List (Nat × Nat)) (p : Nat) (f : Option Nat), (wd u p f).length ≤ 2 * u.length + 1
 | [], p, f => by cases f <;> simp [wd, close]
 | (k, n) :: r, p, f => by
  have h1 := fun q g => zqI r q g
  have hc : (close f p).length ≤ 1 := by cases f <;> simp [close]
  simp only [wd]
  split
  ·have := h1 (p + n) none; simp; omega
  ·split
   ·have := h1 (p + n) none; simp; omega
   ·split
    ·split
     ·rename_i a _; have := h1 (p + n) (some p); simp; omega
     ·rename_i a _; have := h1 (p + n) (some a); simp; omega
    ·have := h1 (p + n) (some p); simp; omega
theorem zqE : ∀ (n : Nat) (l : List UInt8), l.length ≤ n → (us l).length ≤ l.length
 | 0, l, h => by
  have : l = [] := List.eq_nil_of_length_eq_zero (by omega)
  subst this; simp [zdO]
 | n + 1, [], _ => by simp [zdO]
 | n + 1, b :: t, h => by
  rw [zcf (b :: t) (by simp)]
  have hw := decodeL_width (b :: t)
  have h1 := zqE n ((b :: t).drop (decodeL (b :: t)).2) (by rw [List.length_drop]; omega)
  rw [List.length_drop] at h1
  simp only [List.length_cons] at *
  omega
theorem zel (l : List UInt8) : (wordsL l).length ≤ 2 * l.length + 1 := by
 unfold wordsL
 rw [List.length_map]
 have := zqI (us l) 0 none
 have := zqE _ l (Nat.le_refl _)
 omega
section
end
section
end
section
end
end Go.Proofs.YtennokckmjcefaaGreatDoor
namespace Go.Cs
open Go.Lib
end Go.Cs
namespace Go.Proofs.YtennokckmjcefaaGreatDoor
open Go.RowKit Go.Pw Go.Vc Go.Cs Go.Lib
section
end
def Rns (w : World) (B : Nat) (v : Value) (l : List Nat) : Prop := w.ownsRow B 3 1 v l.length (l.map fun (c : Nat) => Value.int .i64 (c : Int))
theorem byteInfo : (Tryz.prog.info? 5).map (fun i => (i.zero, i.size, i.bytes)) = some (some (.int .u8 0), 1, 1) := by kernel_rfl
theorem Rns.shape {w : World} {B : Nat} {v : Value} {l : List Nat} (h : Rns w B v l) : ∃ a cap, v = .slice a l.length cap := zab h
section
end
theorem Bytes.shape {w : World} {B : Nat} {v : Value} {l : List UInt8} (h : Bytes w B v l) : ∃ a cap, v = .slice a l.length cap := zab h
theorem Bytes.keep {w w' : World} {B : Nat} {v : Value} {l : List UInt8} (h : Bytes w B v l) (k : Kp w w' n_) : Bytes w' B v l := zac h k
theorem Rns.keep {w w' : World} {B : Nat} {v : Value} {l : List Nat} (h : Rns w B v l) (k : Kp w w' n_) : Rns w' B v l := zac h k
section
end
def listL (l : List UInt8) : List (List UInt8) := (wordsL l).map (·.1)
theorem wordFlat (x : Wd) : ∀ v ∈ wordCells x, Flat v := by
 intro v hv
 simp only [wordCells, List.mem_cons, List.not_mem_nil, or_false] at hv
 rcases hv with rfl | rfl | rfl <;> trivial
theorem zgS {w : World} (s : ByteArray) (hC : CutTab w) (hF : FoldTab w) (hs : s.size ≤ 10000000) : Calls Tryz.prog 25 #[.string s] w fun e w' => ∃ v, e = .returned v ∧ Txs w' w.heap.size v (listL (L s)) ∧ Kp w w' n_ := by
 have hLs : (L s).length = s.size := by simp [L]
 have hwl := zel (L s)
 refine zaa (args := [.string s]) Tryz.func25 rfl NL ?_; refine GW ?_
 refine GO ?_
 refine CallS.of (Tryz.call86 _ _) (zoc s hC hF hs) ?_
 rintro e w1 ⟨v, rfl, hW, k1⟩
 unfold listL
 generalize wordsL (L s) = W at *
 obtain ⟨a, cap, rfl, hr⟩ := zsH hW
 refine RT ?_
 refine GO ?_
 refine Loop.intro (ι := Nat × Option Addr × Nat × List (List UInt8)) (fun i => [(3, .slice i.2.1 i.2.2.2.length i.2.2.1), (7, .slice a W.length cap), (8, .int .i64 (W.length : Nat)), (9, .int .i64 (i.1 : Nat))])
  (fun i wr => Kp w1 wr n_ ∧ i.1 ≤ W.length ∧ i.2.2.2 = (W.take i.1).map (·.1) ∧ Txs wr w1.heap.size (.slice i.2.1 i.2.2.2.length i.2.2.1) i.2.2.2) (fun i => W.length - i.1) (0, none, 0, []) ⟨rfl, rfl, rfl, rfl, trivial⟩
  ⟨Kp.refl _ _, Nat.zero_le _, rfl, ?_⟩ ?_
 ·exact World.ownsRow_nil _ _ _ _
 rintro ⟨i, va, vc, l⟩ gg wr ⟨hK1, hi, hl, hT⟩
 dsimp only at hi hl hT ⊢
 have hll : l.length = i := by rw [hl]; simp; omega
 refine GW ?_
 by_cases hlt : i < W.length
 ·obtain ⟨g1, rfl, b1, h1⟩ := hr (by omega)
  have c1 := zrz (zbH h1 hK1) hlt
  refine GO ?_
  refine Load.agg (wordCells W[i]) (by rfl) (by rfl) (by rfl) c1 ?_
  refine GO ?_
  refine Store.fresh (vs := wordCells W[i]) (by rfl) rfl (wordFlat _) ?_
  have c2 : (wr.alloc (.cells (wordCells W[i]).toArray 116)).cell? ⟨wr.heap.size, 0, none⟩ = some (.string (str W[i].1)) := by
   exact zfP wr (wordCells W[i]).toArray 116 0 (.string (str W[i].1)) rfl
  have k2 : Kp wr (wr.alloc (.cells (wordCells W[i]).toArray 116)) n_ := (Kp.refl _ _).alloc _
  generalize wr.alloc (.cells (wordCells W[i]).toArray 116) = w2 at *
  refine GO ?_
  refine RunV.of (zlq _ _) ?_
  refine GW ?_
  have hT2 : Txs w2 w1.heap.size (.slice va l.length vc) l := zac hT k2
  refine zoO hT2 (Nat.le_trans hK1.size k2.size) W[i].1 (by omega) fun v' w3 h3 g3 => ?_
  obtain ⟨a3, c3, rfl⟩ : ∃ a c, v' = .slice a (l ++ [W[i].1]).length c := zab h3
  refine GO ?_
  have K3 : Kp w1 w3 n_ := ((hK1.trans0 k2).alloc _).own (zac hT2 ((Kp.refl _ _).alloc _)) (Nat.le_refl _) g3
  exact ⟨(i + 1, a3, c3, l ++ [W[i].1]), ⟨rfl, rfl, rfl, v_int (by simp), trivial⟩, ⟨K3, by dsimp only; omega, by dsimp only; rw [List.take_succ_eq_append_getElem hlt, List.map_append, hl]; rfl, h3⟩, by dsimp only; omega⟩
 ·refine GO ?_
  have e : i = W.length := by omega
  rw [e, List.take_length] at hl
  refine ⟨_, rfl, ?_, k1.trans0 hK1⟩
  rw [← hl]
  exact zax hT k1.size
section
variable {w : World}
theorem knd (r : Int) (k : Nat) (h : kindI r = k) (w : World) (hC : CutTab w) : Calls Tryz.prog 149 #[.int .i64 r] w fun e w' => e = .returned (.int .i64 (k : Nat)) ∧ Kp w w' n_ := by
 subst h; exact zky r hC
end
section
end
section
end
section
end
section
end
end Go.Proofs.YtennokckmjcefaaGreatDoor
namespace Go.Vc
open Go Go.Pw Go.RowKit
set_option linter.unusedSectionVars false
theorem zos (a b : ByteArray) : (a == b) = decide (a = b) := by
 obtain ⟨a⟩ := a
 obtain ⟨b⟩ := b
 have e : ((ByteArray.mk a == ByteArray.mk b) : Bool) = (a == b) := rfl
 rw [e]
 by_cases h : a = b <;> simp [h]
abbrev GM (κ : Type) := List (κ × Value)
section
variable {κ : Type} [DecidableEq κ]
def GM.get : GM κ → κ → Option Value
 | [], _ => none
 | (s, v) :: r, k => if k = s then some v else GM.get r k
def GM.put : GM κ → κ → Value → GM κ
 | [], k, x => [(k, x)]
 | (s, v) :: r, k, x => if k = s then (s, x) :: r else (s, v) :: GM.put r k x
def GM.del : GM κ → κ → GM κ
 | [], _ => []
 | (s, v) :: r, k => if k = s then r else (s, v) :: GM.del r k
def GM.idx : GM κ → κ → Nat → Option (Nat × Value)
 | [], _, _ => none
 | (s, v) :: r, k, i => if k = s then some (i, v) else GM.idx r k (i + 1)
def entG (e : MapEntry) : Value × Value := (e.key, e.val)
def gmP (enc : κ → Value) (p : κ × Value) : Value × Value := (enc p.1, p.2)
structure KeyOk (P : Program) (kt : TypeId) (enc : κ → Value) : Prop where
 check : ∀ e k w, (Instr.checkKey e 10000 kt (enc k)).run P w = .ok () w
 find : ∀ w k (es : List MapEntry) (m : GM κ), es.map entG = m.map (gmP enc) → (Instr.findKey kt (enc k) es).run P w = .ok (m.idx k 0) w
 bits : ∀ k, Instr.sameBits 10000 (enc k) (enc k) = true
def GMap (enc : κ → Value) (w : World) (b : Nat) (m : GM κ) : Prop := ∃ es clock, w.heap[b]? = some (.map es clock) ∧ es.toList.map entG = m.map (gmP enc)
theorem GM.idx_get (k : κ) : ∀ (m : GM κ) (i : Nat), (m.idx k i).map (·.2) = m.get k
 | [], i => rfl
 | (s, v) :: r, i => by
  unfold GM.idx GM.get
  split
  ·rfl
  ·exact GM.idx_get k r (i + 1)
theorem GM.idx_none (k : κ) : ∀ (m : GM κ) (i : Nat), m.idx k i = none → m.get k = none ∧ (∀ x, m.put k x = m ++ [(k, x)]) ∧ m.del k = m
 | [], i, _ => ⟨rfl, fun _ => rfl, rfl⟩
 | (s, v) :: r, i, h => by
  unfold GM.idx at h
  split at h
  ·cases h
  ·rename_i hk
   obtain ⟨h1, h2, h3⟩ := GM.idx_none k r (i + 1) h
   exact ⟨by simp [GM.get, hk, h1], fun x => by simp [GM.put, hk, h2], by simp [GM.del, hk, h3]⟩
theorem GM.idx_some {enc : κ → Value} (k : κ) : ∀ (es : List MapEntry) (m : GM κ) (i j : Nat) (v : Value), es.map entG = m.map (gmP enc) → m.idx k i = some (j, v) →
  ∃ d, j = i + d ∧ d < es.length ∧ m.get k = some v ∧ (es[d]?).map (·.key) = some (enc k) ∧ (∀ x, (es.modify d fun e => { e with key := enc k, val := x }).map entG = (m.put k x).map (gmP enc)) ∧ (es.eraseIdx d).map entG = (m.del k).map (gmP enc)
 | [], m, i, j, v, h, hi => by
  have : m = [] := by cases m with | nil => rfl | cons a r => simp at h
  subst this; simp [GM.idx] at hi
 | e :: es, [], i, j, v, h, hi => by simp at h
 | e :: es, (s, x0) :: r, i, j, v, h, hi => by
  simp only [List.map_cons, List.cons.injEq] at h
  obtain ⟨h1, h2⟩ := h
  simp only [entG, gmP, Prod.mk.injEq] at h1
  obtain ⟨h3, h4⟩ := h1
  unfold GM.idx at hi
  split at hi
  ·rename_i hk
   subst hk
   simp only [Option.some.injEq, Prod.mk.injEq] at hi
   obtain ⟨rfl, rfl⟩ := hi
   refine ⟨0, by simp, by simp, by simp [GM.get], by simp [h3], fun x => ?_, ?_⟩
   ·simp only [List.modify_zero_cons, List.map_cons, GM.put, if_pos, h2]
    simp [entG, gmP]
   ·simp [GM.del, h2]
  ·rename_i hk
   obtain ⟨d, q1, q2, q3, q4, q5, q6⟩ := GM.idx_some k es r (i + 1) j v h2 hi
   refine ⟨d + 1, by omega, Nat.succ_lt_succ q2, by simp [GM.get, hk, q3], by simpa using q4, fun x => ?_, ?_⟩
   ·simp only [List.modify_succ_cons, List.map_cons, GM.put, if_neg hk, q5 x]
    simp [entG, gmP, h3, h4]
   ·simp only [List.eraseIdx_cons_succ, List.map_cons, GM.del, if_neg hk, q6]
    simp [entG, gmP, h3, h4]
theorem GM.get_put (k k' : κ) (x : Value) : ∀ (m : GM κ), (m.put k x).get k' = if k' = k then some x else m.get k'
 | [] => by simp [GM.put, GM.get]
 | (s, v) :: r => by
  unfold GM.put
  by_cases h : k = s
  ·subst h
   rw [if_pos rfl]
   simp only [GM.get]
   split <;> rfl
  ·rw [if_neg h]
   simp only [GM.get]
   by_cases h2 : k' = s
   ·rw [if_pos h2, if_pos h2, if_neg (fun e => h (by rw [← e, h2]))]
   ·rw [if_neg h2, if_neg h2, GM.get_put k k' x r]
variable {enc : κ → Value} {P : Program} {w : World} {b : Nat} {m : GM κ} {t kt et : TypeId} {K : Value → World → Prop}
theorem GMap.lt (h : GMap enc w b m) : b < w.heap.size := by
 obtain ⟨es, cl, hb, he⟩ := h
 rcases Nat.lt_or_ge b w.heap.size with h' | h'
 ·exact h'
 ·rw [Array.getElem?_eq_none h'] at hb; cases hb
theorem GMap.keep {w' : World} {c : Nat → Prop} (h : GMap enc w b m) (k : Kp w w' c) (hc : ¬ c b) : GMap enc w' b m := by
 have hlt := h.lt
 obtain ⟨es, cl, hb, he⟩ := h
 exact ⟨es, cl, (k.block b hlt hc).trans hb, he⟩
theorem GMap.new (w : World) : GMap enc (w.alloc (.map #[] 0)) w.heap.size ([] : GM κ) := ⟨#[], 0, heap_alloc_new w _, rfl⟩
theorem RunV.makeMap {r : Option Value} (hr : r = none) (k : K (.map (some w.heap.size)) (w.alloc (.map #[] 0))) : RunV P (Instr.makeMap t r) w K := by
 subst hr
 exact RunV.of (by simp [Instr.makeMap]) k
theorem RunV.lookG (ok : KeyOk P kt enc) (ht : P.underlying t = some (.map kt et)) {z : Value} (hz : (zeroValue et).run P w = .ok z w) (h : GMap enc w b m) (s : κ) {e : Value} (he : e = enc s) (k : K ((m.get s).getD z) w) :
  RunV P (Instr.lookup t (.map (some b)) e false) w K := by
 subst he
 obtain ⟨es, clock, hb, he⟩ := h
 refine ⟨_, w, ?_, k⟩
 have h1 := GM.idx_get s m 0
 cases hi : m.idx s 0 with
 | none =>
  rw [hi] at h1
  simp [Instr.lookup, zaI ht, getObj, Sem.run, hb, ok.check, ok.find w s es.toList m he, hi, hz, ← h1]
 | some jv =>
  obtain ⟨j, v⟩ := jv
  rw [hi] at h1
  simp [Instr.lookup, zaI ht, getObj, Sem.run, hb, ok.check, ok.find w s es.toList m he, hi, ← h1]
def setOG (w : World) (b : Nat) (o : Obj) : World := { w with heap := w.heap.set! b o }
theorem zcp (o : Obj) (hb : b < w.heap.size) : (setOG w b o).heap[b]? = some o := by
 simp [setOG, hb]
theorem zbW (o : Obj) : Kp w (setOG w b o) (one_ b) :=
 ⟨rfl, rfl, rfl, by simp [setOG], fun k hk hn => by
  have : b ≠ k := fun e => hn e.symm
  simp [setOG, this]⟩
theorem RunU.updG {K : World → Prop} (ok : KeyOk P kt enc) (ht : P.underlying t = some (.map kt et)) (h : GMap enc w b m) (s : κ) {e : Value} (he : e = enc s) (x : Value) (k : ∀ w', GMap enc w' b (m.put s x) → Kp w w' (one_ b) → K w') :
  RunU P (Instr.mapUpdate t (.map (some b)) e x) w K := by
 subst he
 have hlt := h.lt
 obtain ⟨es, clock, hb, he⟩ := h
 have hf := ok.find w s es.toList m he
 cases hi : m.idx s 0 with
 | none =>
  rw [hi] at hf
  obtain ⟨a1, a2, a3⟩ := GM.idx_none s m 0 hi
  refine ⟨setOG w b (.map (es.push { key := enc s, val := x, born := clock }) (clock + 1)), ?_, k _ ⟨_, _, zcp _ hlt, ?_⟩ (zbW _)⟩
  ·simp [Instr.mapUpdate, zaI ht, getObj, setObj, Sem.run, hb, ok.check, hf, setOG]
  ·simp [a2, he, entG, gmP]
 | some jv =>
  obtain ⟨j, v⟩ := jv
  rw [hi] at hf
  obtain ⟨d, q1, q2, q3, q4, q5, q6⟩ := GM.idx_some s es.toList m 0 j v he hi
  obtain rfl : j = d := by omega
  have e2 : ((es[j]?).map (·.key)).getD (enc s) = enc s := by
   rw [← Array.getElem?_toList, q4]; rfl
  refine ⟨setOG w b (.map (es.modify j fun e => { e with key := enc s, val := x }) clock), ?_, k _ ⟨_, _, zcp _ hlt, ?_⟩ (zbW _)⟩
  ·simp [Instr.mapUpdate, zaI ht, getObj, setObj, Sem.run, hb, ok.check, hf, setOG, e2, Instr.keyThatStays, ok.bits]
  ·rw [Array.toList_modify]; exact q5 x
end
section
variable {P : Program} {kt : TypeId}
theorem zqp {κ : Type} [DecidableEq κ] {enc : κ → Value} {u : TypeDesc} (hu : P.underlying kt = some u) (hs : ∀ a b, Instr.sameNow u (enc a) (enc b) = some (decide (a = b))) (w : World) (k : κ) (es : List MapEntry) (m : GM κ) (h : es.map entG = m.map (gmP enc)) :
  (Instr.findKey kt (enc k) es).run P w = .ok (m.idx k 0) w := by
 have key : ∀ (es : List MapEntry) (m : GM κ) (i : Nat), es.map entG = m.map (gmP enc) → Instr.findNow u (enc k) es i = some (m.idx k i) := by
  intro es
  induction es with
  | nil =>
   intro m i h
   have : m = [] := by cases m with | nil => rfl | cons a r => simp at h
   subst this; rfl
  | cons e es ih =>
   intro m i h
   cases m with
   | nil => simp at h
   | cons p r =>
    obtain ⟨s, v⟩ := p
    simp only [List.map_cons, List.cons.injEq] at h
    obtain ⟨h1, h2⟩ := h
    simp only [entG, gmP, Prod.mk.injEq] at h1
    obtain ⟨h3, h4⟩ := h1
    unfold Instr.findNow GM.idx
    rw [h3, hs]
    by_cases hk : k = s
    ·simp [hk, h4]
    ·simp [hk, ih r (i + 1) h2]
 unfold Instr.findKey
 simp [zaI hu, key es m 0 h]
theorem zmW (hk : P.underlying kt = some (.int .i64)) : KeyOk P kt (Value.int .i64) where
 check e k w := by
  show (Instr.checkKey e (9999 + 1) kt _).run P w = _
  unfold Instr.checkKey
  simp [zaI hk]
 find := zqp hk fun a b => by by_cases h : a = b <;> simp [Instr.sameNow, h]
 bits k := by simp [Instr.sameBits]
theorem zhK {κ : Type} [DecidableEq κ] {enc : κ → Value} {u : TypeDesc} (hu : P.underlying kt = some u) (hn : ∀ a b, Instr.sameNow u (enc a) (enc b) = none) (heq : ∀ w a b, (Op.equal kt (enc a) (enc b)).run P w = .ok (decide (a = b)) w)
  (hc : ∀ e k w, (Instr.checkKey e 10000 kt (enc k)).run P w = .ok () w) (hb : ∀ k, Instr.sameBits 10000 (enc k) (enc k) = true) : KeyOk P kt enc where
 check := hc
 bits := hb
 find w k es m h := by
  have ask : ∀ (es : List MapEntry) (m : GM κ) (i : Nat), es.map entG = m.map (gmP enc) → (Instr.findAsking kt (enc k) es i).run P w = .ok (m.idx k i) w := by
   intro es
   induction es with
   | nil =>
    intro m i h
    have : m = [] := by cases m with | nil => rfl | cons a r => simp at h
    subst this; rfl
   | cons e es ih =>
    intro m i h
    cases m with
    | nil => simp at h
    | cons p r =>
     obtain ⟨s, v⟩ := p
     simp only [List.map_cons, List.cons.injEq] at h
     obtain ⟨h1, h2⟩ := h
     simp only [entG, gmP, Prod.mk.injEq] at h1
     obtain ⟨h3, h4⟩ := h1
     unfold Instr.findAsking GM.idx
     rw [h3]
     by_cases hk : k = s
     ·simp [heq, hk, h4]
     ·simp [heq, hk, ih r (i + 1) h2]
  unfold Instr.findKey
  cases es with
  | nil =>
   have : m = [] := by cases m with | nil => rfl | cons a r => simp at h
   subst this
   simp [zaI hu, Instr.findNow, GM.idx]
  | cons e es =>
   cases m with
   | nil => simp at h
   | cons p r =>
    have h1 := h
    simp only [List.map_cons, List.cons.injEq] at h1
    have h3 : e.key = enc p.1 := by have := h1.1; simp only [entG, gmP, Prod.mk.injEq] at this; exact this.1
    have : Instr.findNow u (enc k) (e :: es) 0 = none := by unfold Instr.findNow; rw [h3, hn]
    simp [zaI hu, this, ask (e :: es) (p :: r) 0 h]
end
end Go.Vc
namespace Go.Proofs.YtennokckmjcefaaGreatDoor
open Go.RowKit Go.Pw Go.Vc Go.Cs Go.Lib
def boxCells (b : Bx) : List Value := [.int .i64 b.id, .int .i64 b.up, .string (str b.name), .string (str b.role)]
abbrev RowB (w : World) (v : Value) (l : List Bx) : Prop := RowO w v boxCells l
section
end
end Go.Proofs.YtennokckmjcefaaGreatDoor
namespace Go.Cs
open Go.Lib
end Go.Cs
namespace Go.Proofs.YtennokckmjcefaaGreatDoor
open Go.RowKit Go.Pw Go.Vc Go.Cs Go.Lib
section
end
theorem zrg (x y : List UInt8) : ((str x).toList == (str y).toList) = decide (x = y) := by
 rw [zeh]
 by_cases h : x = y
 ·simp [h]
 ·have : str x ≠ str y := fun e => h (by have := congrArg L e; rwa [L_str, L_str] at this)
  simp [h, this]
def UsedM (l : List Bx) (m : GM (List UInt8)) : Prop := ∀ r, (∃ x : Int, x ≠ 0 ∧ m.get r = some (.int .i64 x) ∧ ∃ b ∈ l, b.role = r) ∨ (m.get r = none ∧ ∀ b ∈ l, b.role ≠ r)
theorem UsedM.put {l : List Bx} {m : GM (List UInt8)} (h : UsedM l m) (b : Bx) (hb : b.id ≠ 0) : UsedM (l ++ [b]) (m.put b.role (.int .i64 b.id)) := fun r => by
 rw [GM.get_put]
 by_cases e : r = b.role
 ·left
  rw [if_pos e]
  exact ⟨b.id, hb, rfl, b, by simp, e.symm⟩
 ·rw [if_neg e]
  rcases h r with ⟨x, h1, h2, c, hc, h3⟩ | ⟨h1, h2⟩
  ·exact .inl ⟨x, h1, h2, c, by simp [hc], h3⟩
  ·refine .inr ⟨h1, fun c hc => ?_⟩
   rcases List.mem_append.1 hc with hc | hc
   ·exact h2 c hc
   ·rw [List.mem_singleton.1 hc]; exact fun q => e q.symm
section
end
theorem zaG {w w' : World} {b o : Nat} {vs : List Value} {c : Nat → Prop} (h : At w b o vs) (k : Kp w w' c) (hc : ¬ c b) : At w' b o vs := fun i v hi => by
 have := h i v hi
 rw [k.cell (cell_lt this) hc]; exact this
section
end
section
end
section
end
section
end
section
end
section
end
section
end
end Go.Proofs.YtennokckmjcefaaGreatDoor
namespace Go.Vc
open Go Go.Pw
theorem zhW {α : Type} (f : α → List Value) (n : Nat) (hf : ∀ x, (f x).length = n) {j : Nat} (hj : j < n) (v : Value) (x : α) : ∀ (l : List α) (k : Nat) (hk : k < l.length), f x = (f l[k]).set j v → (l.flatMap f).set (k * n + j) v = (l.set k x).flatMap f
 | [], k, hk, _ => by simp at hk
 | y :: r, 0, _, h => by
  rw [List.set_cons_zero, List.flatMap_cons, List.flatMap_cons, Nat.zero_mul, Nat.zero_add, List.set_append_left _ _ (by rw [hf]; exact hj)]
  have h : f x = (f y).set j v := h
  rw [h]
 | y :: r, k + 1, hk, h => by
  rw [List.set_cons_succ, List.flatMap_cons, List.flatMap_cons, List.set_append_right _ _ (by rw [hf, Nat.succ_mul]; omega), hf, show (k + 1) * n + j - n = k * n + j by rw [Nat.succ_mul]; omega]
  rw [zhW f n hf hj v x r k (by simpa using hk) h]
theorem Store.atK {P : Program} {t T : TypeId} {w : World} {b i : Nat} {cs : List Value} {v : Value} {K : World → Prop} (h : VarK w b T cs) (hi : i < cs.length) (hs : sizeOfT P t = some 1) (hv : v.cells = #[v] ∧ (∀ cs, v ≠ .agg cs) ∧ ∀ cs, v ≠ .tuple cs)
  (k : ∀ w', VarK w' b T (cs.set i v) → Kp w w' (one_ b) → K w') : Store P t ⟨b, i, none⟩ v w K := by
 have hc : w.cell? ⟨b, i, none⟩ = some cs[i] := by
  have := h.at i _ (List.getElem?_eq_getElem hi)
  rwa [Nat.zero_add] at this
 exact Store.one hs hv hc (h.frozen _) (k _ (h.set i v) ((Kp.refl w (one_ b)).setCell (p := ⟨b, i, none⟩) (.inl rfl) v))
theorem zoI {α : Type} {w w' : World} {B e s g cap : Nat} {cells : List Value} {f : α → List Value} {l : List α} (hf : ∀ x, (f x).length = s) {k j : Nat} (hk : k < l.length) (hj : j < s) {v : Value} {x : α} (hx : f x = (f l[k]).set j v)
  (hB : B ≤ g) (hn : l.length ≤ cap) (hc : cap ≤ maxLen) (hl : cells.length = cap * s) (ht : cells.take (l.length * s) = l.flatMap f) (h : VarK w' g e (cells.set (k * s + j) v)) : w'.ownsRow B e s (.slice (some ⟨g, 0, none⟩) l.length cap) l.length ((l.set k x).flatMap f) := by
 refine zbG hB h hn hc (by rw [List.length_set, hl]) ?_ (by rw [zaV f s hf, List.length_set])
 rw [List.take_set, ht]
 exact zhW f s hf hj v x l k hk hx
end Go.Vc
namespace Go.Cs

end Go.Cs
namespace Go.Proofs.YtennokckmjcefaaGreatDoor
open Go.RowKit Go.Pw Go.Vc Go.Cs Go.Lib
section
end
section
end
end Go.Proofs.YtennokckmjcefaaGreatDoor
namespace Go.Proofs.YtennokckmjcefaaGreatDoor
open Go.Shelf Go.RowKit Go.Pw Go.Vc Go.Cs Go.Lib Go.Sort
section
end
end Go.Proofs.YtennokckmjcefaaGreatDoor
namespace Go.Proofs.YtennokckmjcefaaGreatDoor
open Go.Shelf Go.RowKit Go.Pw Go.Vc Go.Cs Go.Lib
section
end
structure MailOk (w : World) (x : Mr) : Prop where
 b : RowI w x.b.v x.m.boxes
 f : RowT w x.f.v x.m.flags
theorem MailOk.keep {w w' : World} {x : Mr} (h : MailOk w x) (k : Kp w w' n_) : MailOk w' x := ⟨h.b.keep k, h.f.keep k⟩
def Apart (v u : Value) : Prop := ∀ k, v.ownBlock = some k → u.ownBlock ≠ some k
theorem zaq {w w' : World} {B s n b : Nat} {e : TypeId} {v : Value} {xs : List Value} (h : w.ownsRow B e s v n xs) (k : Kp w w' (one_ b)) (hb : b < B) : w'.ownsRow B e s v n xs :=
 zaj h k fun g hg e => by have e : g = b := e; have := (h.lt g hg).1; omega
theorem zah {a w w' : World} {b : Nat} (h : Kp a w n_) (k : Kp w w' (one_ b)) (hb : a.heap.size ≤ b) : Kp a w' n_ := h.trans k fun q hq e => by have e : q = b := e; omega
section
end
structure Hd where
 B : Sl
 M : Sl
 S : Sl
 N : Sl
def RowM (w : World) (v : Value) (l : List Ml) : Prop := ∃ lx : List Mr, lx.map (·.m) = l ∧ RowMr w v lx ∧ ∀ x ∈ lx, MailOk w x
theorem RowM.keep {w w' : World} {v : Value} {l : List Ml} (h : RowM w v l) (k : Kp w w' n_) : RowM w' v l := by
 obtain ⟨lx, h1, h2, h3⟩ := h
 exact ⟨lx, h1, h2.keep k, fun x hx => (h3 x hx).keep k⟩
structure AccR (w : World) (h : Hd) (A : Acc) : Prop where
 b : RowB w h.B.v A.boxes
 m : RowM w h.M.v A.mails
 s : RowS w h.S.v A.scripts
 n : RowN w h.N.v A.seen
theorem AccR.keep {w w' : World} {h : Hd} {A : Acc} (r : AccR w h A) (k : Kp w w' n_) : AccR w' h A := ⟨r.b.keep k, r.m.keep k, r.s.keep k, r.n.keep k⟩
theorem zle {α β : Type} (f : α → β) (p : β → Bool) (l : List α) : idxP (fun x => p (f x)) l = idxP p (l.map f) := by
 unfold idxP
 rw [List.findIdx?_map]
 rfl
section
end
section
end
section
end
def Mr.bs (x : Mr) : List Nat := x.b.v.ownBlock.toList ++ x.f.v.ownBlock.toList
def Hd.bs (h : Hd) : List Nat := h.B.v.ownBlock.toList ++ h.S.v.ownBlock.toList ++ h.N.v.ownBlock.toList ++ h.M.v.ownBlock.toList
theorem zom {w w' : World} {B s n : Nat} {e : TypeId} {v u : Value} {xs : List Value} (h : w.ownsRow B e s v n xs) (k : Kp w w' (own_ u)) (ap : Apart v u) : w'.ownsRow B e s v n xs :=
 zaj h k fun g hg e => ap g hg e
section
end
end Go.Proofs.YtennokckmjcefaaGreatDoor
