/- Helper lemmas; no conditions of their own. -/
import Derived.Laws.StructEq
import Derived.Test.YtennokckmjcefaaGreatDoorGCw3
set_option linter.unusedVariables false
set_option maxHeartbeats 4000000
set_option maxRecDepth 100000
namespace Go.Proofs.YtennokckmjcefaaGreatDoor
open Go.RowKit Go.Pw Go.Vc Go.Cs Go.Lib
section
variable {w : World}
theorem zcB (L0 : List UInt8) (ps : List (Nat × Nat)) (f : Option Nat) (m : Nat) :
  (if frI f < 0 then ps.map (mk L0) else ps.map (mk L0) ++ [(foldL (cutL L0 ((frI f).toNat, m)), (frI f).toNat, m)]) = (ps ++ close f m).map (mk L0) := by
 cases f with
 | none => rw [if_pos (by simp [frI])]; simp [close]
 | some a => rw [if_neg (by simp [frI])]; simp [close, frI, mk]
theorem zpd (s : ByteArray) (hC : zeV w) (hF : zcv w) (hs : s.size ≤ 10000000) : Calls Tryz.prog 86 #[.string s] w fun e w' => ∃ v, e = .returned v ∧ Wds w' w.heap.size v (wordsL (L s)) ∧ Kp w w' n_ := by
 have hl := L_len s
 refine zaa (args := [.string s]) Tryz.func86 rfl NL ?_; refine GW ?_
 have v1 := Var1.alloc_new w 9 (.string s)
 have k1 : Kp w (w.alloc (.cells #[.string s] 9)) n_ := (Yb _ _).alloc _
 have z1 : (w.alloc (.cells #[.string s] 9)).heap.size = w.heap.size + 1 := by simp
 generalize w.alloc (.cells #[.string s] 9) = w1 at *
 have v2 := Var1.alloc_new w1 113 (.slice none 0 0)
 have k2 : Kp w1 (w1.alloc (.cells #[.slice none 0 0] 113)) n_ := (Yb _ _).alloc _
 have z2 : (w1.alloc (.cells #[.slice none 0 0] 113)).heap.size = w.heap.size + 2 := by simp [z1]
 generalize w1.alloc (.cells #[.slice none 0 0] 113) = w2 at *
 have v3 := Var1.alloc_new w2 3 (.int .i64 0)
 have k3 : Kp w2 (w2.alloc (.cells #[.int .i64 0] 3)) n_ := (Yb _ _).alloc _
 have z3 : (w2.alloc (.cells #[.int .i64 0] 3)).heap.size = w.heap.size + 3 := by simp [z2]
 generalize w2.alloc (.cells #[.int .i64 0] 3) = w3 at *
 rw [z1, z2] at *
 have st0 : WSt w w3 w.heap.size (w.heap.size + 1) (w.heap.size + 2) s (.slice none 0 0) [] 0 :=
  ⟨(k1.trans0 k2).trans0 k3, yag _, OM, OM, (v1.keep k2 id).keep k3 id, v2.keep k3 id, v3, World.ownsRow_nil _ _ _ _⟩
 refine Store.one (by rfl) ⟨rfl, by simp, by simp⟩ v3.cell v3.frozen ?_
 have st1 := st0.setFrom (-1)
 have z4 : (w3.setCell ⟨w.heap.size + 2, 0, none⟩ (.int .i64 (-1))).heap.size = w.heap.size + 3 := by simp [World.setCell, z3]
 generalize w3.setCell ⟨w.heap.size + 2, 0, none⟩ (.int .i64 (-1)) = w4 at *
 have c1 := st1.cs.cell
 refine GO ?_
 refine RunV.rangeS Tryz.underlying9 ?_
 have hi5 := heap_alloc_new w4 (.stringIter s 0)
 have st5 := st1.keep ((Yb w4 n_).alloc (.stringIter s 0))
 rw [z4] at *
 generalize w4.alloc (.stringIter s 0) = w5 at *
 refine GW ?_
 refine Yc (ι := Nat × Value × List (Nat × Nat) × Option Nat) (fun i => [(1, .pointer (some ⟨w.heap.size, 0, none⟩)), (3, .pointer (some ⟨w.heap.size + 1, 0, none⟩)), (4, .pointer (some ⟨w.heap.size + 2, 0, none⟩)),
   (5, .func (.func 146) #[] #[.pointer (some ⟨w.heap.size + 2, 0, none⟩), .pointer (some ⟨w.heap.size + 1, 0, none⟩), .pointer (some ⟨w.heap.size, 0, none⟩)]), (12, .pointer (some ⟨w.heap.size + 3, 0, none⟩))])
  (fun i wr => i.1 ≤ s.size ∧ WSt w wr w.heap.size (w.heap.size + 1) (w.heap.size + 2) s i.2.1 (i.2.2.1.map (mk (L s))) (frI i.2.2.2) ∧ wr.heap[w.heap.size + 3]? = some (.stringIter s i.1) ∧
   wd (us (L s)) 0 none = i.2.2.1 ++ wd (us ((L s).drop i.1)) i.1 i.2.2.2 ∧ i.2.2.1.length ≤ 2 * i.1 ∧ ∀ a, i.2.2.2 = some a → a ≤ i.1) (fun i => s.size - i.1) (0, .slice none 0 0, [], none) ⟨rfl, rfl, rfl, by simp [upd], rfl, trivial⟩
  ⟨yal _, st5, hi5, rfl, yag _, fun a h => by cases h⟩ ?_
 rintro ⟨n, v, ps, f⟩ g wr ⟨hn, st, hi, he, hpl, hfa⟩
 dsimp only at hn st hi he hpl hfa ⊢
 refine GW ?_
 have hfr1 : -1 ≤ frI f := by
  cases f with
  | none => exact Int.le_refl _
  | some a => exact Int.le_trans (by decide) (Int.natCast_nonneg a)
 have hfrn : frI f ≤ n := by
  cases f with
  | none => exact Int.le_trans (by decide) (Int.natCast_nonneg n)
  | some a => exact Int.ofNat_le.2 (hfa a rfl)
 by_cases hlt : n < s.size
 ·refine RunV.nextS hi hlt ?_
  have hne : (L s).drop n ≠ [] := by rw [← zkC]; exact L_ne (by simp; omega)
  have hw := decodeL_width ((L s).drop n)
  have hle := decodeL_le _ hne
  have hsc := zpQ _ hne
  have hru := decodeL_rune ((L s).drop n)
  rw [yau] at hle
  rw [us_step _ hne, yaM] at he
  have hwh : (decodeL ((L s).drop n)).1 ≠ 65533 → (decodeL ((L s).drop n)).2 = (enc (decodeL ((L s).drop n)).1).length := fun hc => by
   rcases dec_whole _ hne with h | h
   ·rw [h] at hc; exact (hc rfl).elim
   exact h.2.2.1
  have hel := zcT (decodeL ((L s).drop n)).1
  have st2 := st.iter (o := .stringIter s (n + (decodeL ((L s).drop n)).2)) hi OM
  have hi2 : (setO wr (w.heap.size + 3) (.stringIter s (n + (decodeL ((L s).drop n)).2))).heap[w.heap.size + 3]? = some (.stringIter s (n + (decodeL ((L s).drop n)).2)) := zkh _ (zbD hi)
  generalize setO wr (w.heap.size + 3) (.stringIter s (n + (decodeL ((L s).drop n)).2)) = w2 at *
  rw [zfV] at he
  generalize (decodeL ((L s).drop n)).1 = c at *
  generalize (decodeL ((L s).drop n)).2 = k at *
  refine GO ?_
  refine Ya (Tryz.call148 _ _) (zna (c : Int) w2) ?_
  rintro e w3 ⟨rfl, rfl⟩
  rw [zmA c hsc]
  refine RT ?_
  refine GO ?_
  rw [wrap_i64 _ OM]
  refine Ya (Tryz.call149 _ _) (zqt (c : Int) (hC.keep st2.k)) ?_
  rintro e w3 ⟨rfl, k3⟩
  have hki : kindI (c : Int) = kindN c := by unfold kindI; rw [if_neg OM]; rfl
  rw [hki]
  have hk2 := zlM c
  have hkb : c = 65533 → kindN c = 0 := fun h => by rw [h]; exact zkr
  refine RT ?_
  have st3 := st2.keep k3
  have hi3 := zaL.keep k3 _ _ _ hi2
  have hcl : (close f n).length ≤ 1 := by cases f <;> simp [close]
  have hlen : (ps.map (mk (L s))).length ≤ 100000000 := by rw [yaf]; omega
  generalize hq : kindN c = q at *
  have zero : ∀ (w6 : World) (v' : Value), q = 0 → WSt w w6 w.heap.size (w.heap.size + 1) (w.heap.size + 2) s v' ((ps ++ close f n).map (mk (L s))) (-1) → w6.heap[w.heap.size + 3]? = some (.stringIter s (n + k)) →
    n + k ≤ s.size ∧ WSt w w6 w.heap.size (w.heap.size + 1) (w.heap.size + 2) s v' ((ps ++ close f n).map (mk (L s))) (frI none) ∧ w6.heap[w.heap.size + 3]? = some (.stringIter s (n + k)) ∧
    wd (us (L s)) 0 none = (ps ++ close f n) ++ wd (us ((L s).drop (n + k))) (n + k) none ∧ (ps ++ close f n).length ≤ 2 * (n + k) ∧ ∀ a, (none : Option Nat) = some a → a ≤ n + k := by
   intro w6 v' h0 h6 hi6
   refine ⟨OM, h6, hi6, by rw [he, h0, wd_0, yap], by rw [yaa]; omega, fun a h => by cases h⟩
  by_cases hc : c = 65533
  ·have h0 : q = 0 := hkb hc
   refine GO ?_
   refine Ya (Tryz.call146 _ _) (zcI st3 hF OM n hn hfrn hfr1 hlen) ?_
   rintro e w6 ⟨rfl, ⟨v', st6⟩, hk6⟩
   rw [zcB] at st6
   refine RT ?_
   refine GO ?_
   exact ⟨(n + k, v', ps ++ close f n, none), FR, zero w6 v' h0 st6 (hk6 _ _ _ hi3), DO⟩
  have hkk := hwh hc
  have h012 : q = 0 ∨ q = 1 ∨ q = 2 := OM
  rcases h012 with h0 | h1 | h2
  ·refine GO ?_
   refine Ya (Tryz.call146 _ _) (zcI st3 hF OM n hn hfrn hfr1 hlen) ?_
   rintro e w6 ⟨rfl, ⟨v', st6⟩, hk6⟩
   rw [zcB] at st6
   refine RT ?_
   refine GO ?_
   exact ⟨(n + k, v', ps ++ close f n, none), FR, zero w6 v' h0 st6 (hk6 _ _ _ hi3), DO⟩
  ·have c3 := st3.cf.cell
   subst h1
   cases f with
   | none =>
    have c3 : w3.cell? ⟨w.heap.size + 2, 0, none⟩ = some (.int .i64 (-1)) := c3
    refine GO ?_
    refine Store.one (by rfl) ⟨rfl, by simp, by simp⟩ c3 st3.cf.frozen ?_
    have st6 := st3.setFrom (n : Int)
    have hi6 := zaL.set st3.cf (.int .i64 (n : Int)) _ _ _ hi3
    generalize w3.setCell ⟨w.heap.size + 2, 0, none⟩ (.int .i64 (n : Int)) = w6 at *
    refine GO ?_
    exact ⟨(n + k, v, ps, some n), FR, ⟨DO, st6, hi6, by rw [he, wd_1n], DO, fun a h => by injection h with h; dsimp only; omega⟩, DO⟩
   | some a =>
    have ha := hfa a rfl
    have c3 : w3.cell? ⟨w.heap.size + 2, 0, none⟩ = some (.int .i64 (a : Int)) := c3
    rw [wd_1s] at he
    by_cases h40 : 40 < n + k - a
    ·rw [if_pos h40] at he
     refine GO ?_
     refine Ya (Tryz.call146 _ _) (zcI st3 hF OM n hn hfrn hfr1 hlen) ?_
     rintro e w6 ⟨rfl, ⟨v', st6⟩, hk6⟩
     rw [zcB] at st6
     refine RT ?_
     have c6 := st6.cf.cell
     refine GO ?_
     refine Store.one (by rfl) ⟨rfl, by simp, by simp⟩ c6 st6.cf.frozen ?_
     have st7 := st6.setFrom (n : Int)
     have hi7 := zaL.set st6.cf (.int .i64 (n : Int)) _ _ _ (hk6 _ _ _ hi3)
     generalize w6.setCell ⟨w.heap.size + 2, 0, none⟩ (.int .i64 (n : Int)) = w7 at *
     refine GO ?_
     exact ⟨(n + k, v', ps ++ close (some a) n, some n), FR, ⟨DO, st7, hi7, by rw [he, List.append_assoc]; rfl, by rw [List.length_append]; dsimp only; omega, fun x h => by injection h with h; dsimp only; omega⟩, DO⟩
    rw [if_neg h40] at he
    refine GO ?_
    exact ⟨(n + k, v, ps, some a), FR, ⟨DO, st3, hi3, he, DO, fun x h => by injection h with h; dsimp only; omega⟩, DO⟩
  subst h2
  refine GO ?_
  refine Ya (Tryz.call146 _ _) (zcI st3 hF OM n hn hfrn hfr1 hlen) ?_
  rintro e w6 ⟨rfl, ⟨v', st6⟩, hk6⟩
  rw [zcB] at st6
  refine RT ?_
  have c6 := st6.cf.cell
  refine GO ?_
  refine Store.one (by rfl) ⟨rfl, by simp, by simp⟩ c6 st6.cf.frozen ?_
  have st7 := st6.setFrom (frI (some n))
  have hi7 := zaL.set st6.cf (.int .i64 (n : Int)) _ _ _ (hk6 _ _ _ hi3)
  have st7 : WSt w (w6.setCell ⟨w.heap.size + 2, 0, none⟩ (.int .i64 (n : Int))) w.heap.size (w.heap.size + 1) (w.heap.size + 2) s v' ((ps ++ close f n).map (mk (L s))) (frI (some n)) := st7
  generalize w6.setCell ⟨w.heap.size + 2, 0, none⟩ (.int .i64 (n : Int)) = w7 at *
  refine GO ?_
  rw [show ((n : Int) + ((enc c).length : Int)) = ((n + k : Nat) : Int) by omega]
  refine Ya (Tryz.call146 _ _) (zcI st7 hF OM (n + k) OM (Int.ofNat_le.2 (ycd n k)) (Int.le_trans (by decide) (Int.natCast_nonneg n)) (by rw [yaf, yaa]; omega)) ?_
  rintro e w8 ⟨rfl, ⟨v8, st8⟩, hk8⟩
  rw [zcB] at st8
  refine RT ?_
  refine GO ?_
  exact ⟨(n + k, v8, (ps ++ close f n) ++ close (some n) (n + k), none), FR, ⟨DO, st8, hk8 _ _ _ hi7, by rw [he, wd_2]; simp [close], by rw [List.length_append, List.length_append]; show ps.length + (close f n).length + 1 ≤ _; dsimp only; omega, fun x h => by cases h⟩, DO⟩
 refine RunV.nextE hi hlt ?_
 have hn0 : (L s).drop n = [] := yaP OM
 have hnn : n = s.size := OM
 have c1 := st.cs.cell
 have c3 := st.co.cell
 refine GO ?_
 rw [hnn] at hfrn
 refine Ya (Tryz.call146 _ _) (zcI st hF OM s.size (yag _) hfrn hfr1 (by rw [yaf]; omega)) ?_
 rintro e w6 ⟨rfl, ⟨v', st6⟩, _⟩
 rw [zcB] at st6
 obtain ⟨a6, c6, rfl⟩ := zab st6.row
 refine RT ?_
 have o6 := st6.co.cell
 refine GO ?_
 rw [hn0, zen, hnn] at he
 refine ⟨_, rfl, ?_, st6.k⟩
 rw [zjq, he]
 exact st6.row
end
def Rd (w : World) (v : Value) (n : Nat) (xs : List Value) : Prop := ∃ a cap, v = .slice a n cap ∧ (0 < n → ∃ g, a = some ⟨g, 0, none⟩ ∧ g < w.heap.size ∧ At w g 0 xs)
theorem zis {w : World} {B s n : Nat} {e : TypeId} {v : Value} {xs : List Value} (h : w.ownsRow B e s v n xs) : Rd w v n xs := by
 obtain ⟨a, cap, rfl⟩ := zab h
 exact ⟨a, cap, rfl, fun h0 => let ⟨g, h1, _, h3, h4⟩ := zdY h h0; ⟨g, h1, h3, h4⟩⟩
theorem zki {α : Type} (f : α → List Value) (n : Nat) (hf : ∀ x, (f x).length = n) : ∀ (l : List α) (i j : Nat) (x : α), l[i]? = some x → j < n → (l.flatMap f)[i * n + j]? = (f x)[j]?
 | [], i, j, x, h, _ => by simp at h
 | y :: r, 0, j, x, h, hj => by
  simp at h; subst h
  rw [yao, List.getElem?_append_left (by rw [hf]; omega)]; simp
 | y :: r, i + 1, j, x, h, hj => by
  rw [yao, List.getElem?_append_right (by rw [hf, ybB]; omega), hf, show (i + 1) * n + j - n = i * n + j by rw [ybB]; omega]
  exact zki f n hf r i j x (by simpa using h) hj
theorem zht {w : World} {g : Nat} {l : List Wd} (h : At w g 0 (l.flatMap wordCells)) {i : Nat} (hi : i < l.length) : At w g (0 + i * 3) (wordCells l[i]) := fun j v hj => by
 have h3 : j < 3 := (List.getElem?_eq_some_iff.1 hj).1
 rw [ybT]
 exact h (i * 3 + j) v ((zki wordCells 3 (fun _ => rfl) l i j _ (List.getElem?_eq_getElem hi) h3).trans hj)
def sv (s : List UInt8) : Value := .string (str s)
def Txs (w : World) (B : Nat) (v : Value) (l : List (List UInt8)) : Prop := w.ownsRow B 9 1 v l.length (l.map sv)
theorem zmO : (Tryz.prog.info? 9).map (fun i => (i.zero, i.size, i.bytes)) = some (some (.string ⟨#[]⟩), 1, 16) := by kernel_rfl
theorem zey (s : ByteArray) (w : World) : (Instr.buildSlice 48 1 [(0, .string s)].toArray).run Tryz.prog w = .ok (.slice (some ⟨w.heap.size, 0, none⟩) 1 1) (w.alloc (.cells #[.string s] 9)) := by
 simp [Instr.buildSlice, go_sem, Tryz.runUnderlying48]
theorem zhn {w : World} {K : Value → World → Prop} {B : Nat} {v : Value} {l : List (List UInt8)} {cs : Array Bool} (h : Txs w B v l) (hB : B ≤ w.heap.size) (x : List UInt8) (hl : l.length ≤ 1000000000)
  (k : ∀ v' w', Txs w' B v' (l ++ [x]) → (w.alloc (.cells #[sv x] 9)).grownBy w' v.ownBlock → K v' w') :
  RunN Tryz.prog (builtin .append #[48, 48] 48 cs [v, .slice (some ⟨w.heap.size, 0, none⟩) 1 1].toArray) (w.alloc (.cells #[sv x] 9)) K := by
 refine RunN.app Tryz.underlying48 zmO rfl (by decide) (own_keep0 h ((Yb _ _).alloc _)) (yaw hB ((Yb w n_).alloc _).size) ⟨w.heap.size, 0, none⟩ 1 1 [sv x] rfl (zgj _ _ _) (by simp [sv, Value.oneCell']) OM OM fun v' w' h2 h3 => k v' w' ?_ h3
 unfold Txs
 rw [yaa, yaL]
 simpa using h2
theorem znJ {w : World} {g : Nat} {l : List (List UInt8)} (h : At w g 0 (l.map sv)) {i : Nat} (hi : i < l.length) : w.cell? ⟨g, 0 + i, none⟩ = some (.string (str l[i])) := h i _ (by rw [List.getElem?_map, List.getElem?_eq_getElem hi]; rfl)
theorem zrD : ∀ (u : List (Nat × Nat)) (p : Nat) (f : Option Nat), (wd u p f).length ≤ 2 * u.length + 1
 | [], p, f => by cases f <;> simp [wd, close]
 | (k, n) :: r, p, f => by
  have h1 := fun q g => zrD r q g
  have hc : (close f p).length ≤ 1 := by cases f <;> simp [close]
  simp only [wd]
  split
  ·have := h1 (p + n) none; simp; omega
  split
  ·have := h1 (p + n) none; simp; omega
  split
  ·split
   ·rename_i a _; have := h1 (p + n) (some p); simp; omega
   rename_i a _; have := h1 (p + n) (some a); simp; omega
  have := h1 (p + n) (some p); simp; omega
theorem zrx : ∀ (n : Nat) (l : List UInt8), l.length ≤ n → (us l).length ≤ l.length
 | 0, l, h => by
  have : l = [] := yan OM
  subst this; simp [zen]
 | n + 1, [], _ => by simp [zen]
 | n + 1, b :: t, h => by
  rw [us_step (b :: t) (by simp)]
  have hw := decodeL_width (b :: t)
  have h1 := zrx n ((b :: t).drop (decodeL (b :: t)).2) (by rw [yau]; omega)
  rw [yau] at h1
  simp only [yab] at *
  omega
theorem zds (l : List UInt8) : (wordsL l).length ≤ 2 * l.length + 1 := by
 unfold wordsL
 rw [yaf]
 have := zrD (us l) 0 none
 have := zrx _ l (yag _)
 omega
section
variable {w : World}
def runeJ (u : List UInt8) : Nat → Nat
 | 0 => (u.getD 0 0).toNat % (if u.length = 2 then 32 else if u.length = 3 then 16 else 8)
 | j + 1 => runeJ u j * 64 + (u.getD (j + 1) 0).toNat % 64
theorem ztc (u : List UInt8) (h1 : 2 ≤ u.length) (h2 : u.length ≤ 4) : runeJ u (u.length - 1) = runeU u := by
 unfold runeU
 rcases (show u.length = 2 ∨ u.length = 3 ∨ u.length = 4 by omega) with h | h | h
 ·rw [h, if_neg OM, if_pos rfl]; simp [runeJ, h]
 ·rw [h, if_neg OM, if_neg OM, if_pos rfl]; simp [runeJ, h]; omega
 rw [h, if_neg OM, if_neg OM, if_neg OM]; simp [runeJ, h]; omega
theorem zlP (u : List UInt8) : ∀ j, j ≤ 3 → runeJ u j < 32 * 64 ^ j
 | 0, _ => by
  unfold runeJ
  repeat' split
  all_goals omega
 | j + 1, h => by
  have := zlP u j OM
  simp only [runeJ, Nat.pow_succ]
  omega
theorem zsw (b n : Nat) (hb : b < 256) (h1 : 2 ≤ n) (h4 : n ≤ 4) : IntKind.i64.wrap ((((IntKind.i64.wrap (b : Int) % 2 ^ IntKind.i64.bits).toNat &&& (Int.fdiv 255 (2 ^ min (IntKind.u64.wrap ((n : Int) + 1)).toNat IntKind.i64.bits) % 2 ^ IntKind.i64.bits).toNat : Nat) : Int)) = ((b % (if n = 2 then 32 else if n = 3 then 16 else 8) : Nat) : Int) := by
 have e : (IntKind.i64.wrap (b : Int) % 2 ^ IntKind.i64.bits).toNat = b := by
  rw [wrap_i64 _ OM, show IntKind.i64.bits = 64 from rfl]; omega
 rw [e]
 rcases (show n = 2 ∨ n = 3 ∨ n = 4 by omega) with h | h | h
 ·subst h
  rw [show (Int.fdiv 255 (2 ^ min (IntKind.u64.wrap (((2 : Nat) : Int) + 1)).toNat IntKind.i64.bits) % 2 ^ IntKind.i64.bits).toNat = 2 ^ 5 - 1 by decide, ybt]
  rw [wrap_i64 _ OM]; rfl
 ·subst h
  rw [show (Int.fdiv 255 (2 ^ min (IntKind.u64.wrap (((3 : Nat) : Int) + 1)).toNat IntKind.i64.bits) % 2 ^ IntKind.i64.bits).toNat = 2 ^ 4 - 1 by decide, ybt]
  rw [wrap_i64 _ OM]; rfl
 subst h
 rw [show (Int.fdiv 255 (2 ^ min (IntKind.u64.wrap (((4 : Nat) : Int) + 1)).toNat IntKind.i64.bits) % 2 ^ IntKind.i64.bits).toNat = 2 ^ 3 - 1 by decide, ybt]
 rw [wrap_i64 _ OM]; rfl
theorem zpE (x : UInt8) : IntKind.i64.wrap (IntKind.u8.wrap ((BitVec.ofInt IntKind.u8.bits ((x.toNat : Nat) : Int) &&& BitVec.ofInt IntKind.u8.bits 63).toNat : Nat)) = ((x.toNat % 64 : Nat) : Int) := by
 have h := UInt8.toNat_lt x
 rw [BitVec.toNat_and, BitVec.toNat_ofInt, BitVec.toNat_ofInt]
 rw [show (((x.toNat : Nat) : Int) % ((2 ^ IntKind.u8.bits : Nat) : Int)).toNat = x.toNat by rw [show ((2 ^ IntKind.u8.bits : Nat) : Int) = 256 from rfl]; omega, show ((63 : Int) % ((2 ^ IntKind.u8.bits : Nat) : Int)).toNat = 2 ^ 6 - 1 by decide, ybt, zfp _ OM, wrap_i64 _ OM]
theorem zcf (s : ByteArray) (h1 : 1 ≤ s.size) (h4 : s.size ≤ 4) : Calls Tryz.prog 264 #[.string s] w fun e w' => e = .returned (.int .i64 ((runeU (L s) : Nat) : Int)) ∧ w = w' := by
 have hl := L_len s
 refine zaa (args := [.string s]) Tryz.func264 rfl NL ?_; refine GW ?_
 have hb0 : (zaB s 0).toNat < 256 := UInt8.toNat_lt _
 by_cases hs : s.size = 1
 ·refine GO ?_
  refine ⟨?_, rfl⟩
  rw [wrap_i64 _ OM]
  unfold runeU
  rw [if_pos OM]
  rfl
 refine GO ?_
 refine Yc (ι := Nat) (fun i => [(0, .string s), (3, .int .i64 (runeJ (L s) i : Nat)), (4, .int .i64 ((i + 1 : Nat) : Int))]) (fun i wr => w = wr ∧ i + 1 ≤ s.size) (fun i => s.size - i) 0 ⟨rfl, ?_, rfl, trivial⟩ ⟨rfl, h1⟩ ?_
 ·exact v_int ((zsw _ _ hb0 OM h4).trans (by unfold runeJ; rw [hl]; rfl))
 rintro i g wr ⟨rfl, hi⟩
 have hle := zlP (L s) i OM
 have hle3 : 32 * 64 ^ i ≤ 32 * 64 ^ 3 := Nat.mul_le_mul_left 32 (Nat.pow_le_pow_right OM OM)
 rw [show 32 * 64 ^ 3 = 8388608 from rfl] at hle3
 generalize 32 * 64 ^ i = B at *
 refine GW ?_
 by_cases hlt : i + 1 < s.size
 ·refine GO ?_
  have hbl := zpE (zaB s (i + 1))
  rw [hbl]
  have hst : runeJ (L s) i * 64 + (zaB s (i + 1)).toNat % 64 = runeJ (L s) (i + 1) := rfl
  refine GO ?_
  exact ⟨i + 1, ⟨rfl, v_int (by rw [← hst]; omega), rfl, trivial⟩, ⟨rfl, OM⟩, DO⟩
 refine GO ?_
 refine ⟨?_, rfl⟩
 rw [← ztc (L s) OM OM, show (L s).length - 1 = i by omega]
end
section
variable {w : World}
theorem zdQ (l : List UInt8) (a i : Nat) : (l.drop a).getD i 0 = l.getD (a + i) 0 := by
 rw [List.getD_eq_getElem?_getD, List.getElem?_drop, ← List.getD_eq_getElem?_getD]
theorem zkZ {l : List UInt8} (h : need l = 1 ∨ l.length < need l) : ((1 : Int)) = ((refLen l : Nat) : Int) := by unfold refLen; rw [if_pos h]; rfl
theorem zgE {l : List UInt8} {n : Nat} (hn : need l = n) (hl : ¬ (n = 1 ∨ l.length < n)) (i : Nat) (h1 : 1 ≤ i) (h2 : i < n) (h4 : n ≤ 4) (h : ¬ contB l i) : ((1 : Int)) = ((refLen l : Nat) : Int) := by
 unfold refLen
 rw [hn, if_neg hl, if_pos]
 ·rfl
 unfold badC
 rcases (show i = 1 ∨ i = 2 ∨ i = 3 by omega) with e | e | e
 ·subst e; exact .inl ⟨OM, h⟩
 ·subst e; exact .inr (.inl ⟨OM, h⟩)
 subst e; exact .inr (.inr ⟨OM, h⟩)
theorem zoS {l : List UInt8} {n : Nat} (hn : need l = n) (hl : ¬ (n = 1 ∨ l.length < n)) (hc : ∀ i, 1 ≤ i → i < n → contB l i) (h : runeU (l.take n) < lowN n ∨ 1114111 < runeU (l.take n) ∨ (55296 ≤ runeU (l.take n) ∧ runeU (l.take n) ≤ 57343)) : ((1 : Int)) = ((refLen l : Nat) : Int) := by
 unfold refLen
 rw [hn, if_neg hl, if_neg, if_pos h]
 ·rfl
 rintro (⟨h1, h2⟩ | ⟨h1, h2⟩ | ⟨h1, h2⟩)
 ·exact h2 (hc 1 OM OM)
 ·exact h2 (hc 2 OM OM)
 exact h2 (hc 3 OM OM)
theorem rl_ok {l : List UInt8} {n : Nat} (hn : need l = n) (hl : ¬ (n = 1 ∨ l.length < n)) (hc : ∀ i, 1 ≤ i → i < n → contB l i) (h : ¬ (runeU (l.take n) < lowN n ∨ 1114111 < runeU (l.take n) ∨ (55296 ≤ runeU (l.take n) ∧ runeU (l.take n) ≤ 57343))) : (n : Int) = ((refLen l : Nat) : Int) := by
 unfold refLen
 rw [hn, if_neg hl, if_neg, if_neg h]
 rintro (⟨h1, h2⟩ | ⟨h1, h2⟩ | ⟨h1, h2⟩)
 ·exact h2 (hc 1 OM OM)
 ·exact h2 (hc 2 OM OM)
 exact h2 (hc 3 OM OM)
theorem ziX (s : ByteArray) (at_ : Nat) (hat : at_ < s.size) (hs : s.size ≤ 1000000000) : Calls Tryz.prog 262 #[.string s, .int .i64 (at_ : Nat)] w fun e w' => e = .returned (.int .i64 (((decodeL ((L s).drop at_)).2 : Nat) : Int)) ∧ w = w' := by
 have hl := L_len s
 have hne : (L s).drop at_ ≠ [] := fun e => by
  have := congrArg List.length e
  rw [yau, yaE] at this; omega
 have hfin := (zgh _ hne).1
 generalize hld : (L s).drop at_ = l at *
 have hll : l.length = s.size - at_ := by rw [← hld, yau, hl]
 have hb : l.getD 0 0 = zaB s at_ := by rw [← hld]; exact zdQ (L s) at_ 0
 have hb0 : (zaB s at_).toNat < 256 := UInt8.toNat_lt _
 have hnd : need l = if 194 ≤ (zaB s at_).toNat ∧ (zaB s at_).toNat ≤ 223 then 2 else if 224 ≤ (zaB s at_).toNat ∧ (zaB s at_).toNat ≤ 239 then 3 else if 240 ≤ (zaB s at_).toNat ∧ (zaB s at_).toNat ≤ 244 then 4 else 1 := by rw [← hb]; rfl
 refine zaa (args := [.string s, .int .i64 (at_ : Nat)]) Tryz.func262 rfl NL ?_; refine GW ?_
 refine GO ?_
 rw [wrap_i64 _ OM]
 generalize (zaB s at_).toNat = b at *
 by_cases hB : 194 ≤ b ∧ b ≤ 223
 ·rw [if_pos hB] at hnd
  obtain ⟨hB1, hB2⟩ := hB
  refine GO ?_
  by_cases hlen : s.size < at_ + 2
  ·refine GO ?_
   refine ⟨?_, rfl⟩
   rw [← hfin]
   exact ret_int (zkZ (.inr (by rw [hnd]; omega)))
  have hnl : ¬ (2 = 1 ∨ l.length < 2) := OM
  refine GO ?_
  refine Yc (ι := Nat) (fun i => [(0, .string s), (1, .int .i64 (at_ : Nat)), (6, .int .i64 2), (7, .int .i64 128), (8, .int .i64 ((i + 1 : Nat) : Int))])
   (fun i wr => w = wr ∧ i + 1 ≤ 2 ∧ ∀ j, 1 ≤ j → j < i + 1 → contB l j) (fun i => 4 - i) 0 FR ⟨rfl, OM, fun j h1 h2 => OM⟩ ?_
  rintro i g wr ⟨rfl, hi, hj⟩
  refine GW ?_
  by_cases hlt : i + 1 < 2
  ·have hbb : l.getD (i + 1) 0 = zaB s (at_ + (i + 1)) := by rw [← hld]; exact zdQ (L s) at_ (i + 1)
   have hb1 := UInt8.toNat_lt (zaB s (at_ + (i + 1)))
   by_cases hlo : (zaB s (at_ + (i + 1))).toNat < 128
   ·refine GO ?_
    refine ⟨?_, rfl⟩
    rw [← hfin]
    exact ret_int (zgE hnd hnl (i + 1) OM hlt OM (by unfold contB; rw [hbb]; omega))
   by_cases hhi : 191 < (zaB s (at_ + (i + 1))).toNat
   ·refine GO ?_
    refine ⟨?_, rfl⟩
    rw [← hfin]
    exact ret_int (zgE hnd hnl (i + 1) OM hlt OM (by unfold contB; rw [hbb]; omega))
   refine GO ?_
   exact ⟨i + 1, ⟨rfl, rfl, rfl, rfl, v_int OM, trivial⟩, ⟨rfl, OM, fun j h1 h2 => by
    rcases (show j < i + 1 ∨ j = i + 1 by omega) with h | h
    ·exact hj j h1 h
    subst h; unfold contB; rw [hbb]; omega⟩, DO⟩
  have hji : ∀ j, 1 ≤ j → j < 2 → contB l j := fun j h1 h2 => hj j h1 OM
  refine GO ?_
  refine Cut.bothI OM OM OM ?_
  have hx : L (s.extract at_ (at_ + 2)) = l.take 2 := by rw [zcn, ← List.take_drop, hld]
  have hxs : (s.extract at_ (at_ + 2)).size = 2 := by rw [← L_len, hx, yar]; omega
  rw [show (((at_ : Nat) : Int)).toNat = at_ by omega, show (((at_ : Nat) : Int) + 2).toNat = at_ + 2 by omega]
  refine GO ?_
  refine Ya (Tryz.call264 _ _) (zcf (s.extract at_ (at_ + 2)) OM OM) ?_
  rintro e w1 ⟨rfl, rfl⟩
  rw [hx]
  refine RT ?_
  have hrl := zoS (l := l) hnd hnl hji
  have hro := rl_ok (l := l) hnd hnl hji
  generalize runeU (l.take 2) = r at *
  generalize hri : ((r : Nat) : Int) = ri at *
  by_cases q1 : ri < 128
  ·refine GO ?_
   refine ⟨?_, rfl⟩
   rw [← hfin]
   exact ret_int (hrl (.inl (by have : lowN 2 = 128 := rfl; omega)))
  by_cases q2 : 1114111 < ri
  ·refine GO ?_
   refine ⟨?_, rfl⟩
   rw [← hfin]
   exact ret_int (hrl (.inr (.inl OM)))
  by_cases q3 : 55296 ≤ ri
  ·by_cases q4 : ri ≤ 57343
   ·refine GO ?_
    refine ⟨?_, rfl⟩
    rw [← hfin]
    exact ret_int (hrl (.inr (.inr OM)))
   refine GO ?_
   refine ⟨?_, rfl⟩
   rw [← hfin]
   exact ret_int (by first | exact hro (by have : lowN 2 = 128 := rfl; omega) | (exfalso; omega))
  refine GO ?_
  refine ⟨?_, rfl⟩
  rw [← hfin]
  exact ret_int (by first | exact hro (by have : lowN 2 = 128 := rfl; omega) | (exfalso; omega))
 by_cases hC : 224 ≤ b ∧ b ≤ 239
 ·rw [if_neg hB, if_pos hC] at hnd
  obtain ⟨hC1, hC2⟩ := hC
  refine GO ?_
  by_cases hlen : s.size < at_ + 3
  ·refine GO ?_
   refine ⟨?_, rfl⟩
   rw [← hfin]
   exact ret_int (zkZ (.inr (by rw [hnd]; omega)))
  have hnl : ¬ (3 = 1 ∨ l.length < 3) := OM
  refine GO ?_
  refine Yc (ι := Nat) (fun i => [(0, .string s), (1, .int .i64 (at_ : Nat)), (6, .int .i64 3), (7, .int .i64 2048), (8, .int .i64 ((i + 1 : Nat) : Int))])
   (fun i wr => w = wr ∧ i + 1 ≤ 3 ∧ ∀ j, 1 ≤ j → j < i + 1 → contB l j) (fun i => 4 - i) 0 FR ⟨rfl, OM, fun j h1 h2 => OM⟩ ?_
  rintro i g wr ⟨rfl, hi, hj⟩
  refine GW ?_
  by_cases hlt : i + 1 < 3
  ·have hbb : l.getD (i + 1) 0 = zaB s (at_ + (i + 1)) := by rw [← hld]; exact zdQ (L s) at_ (i + 1)
   have hb1 := UInt8.toNat_lt (zaB s (at_ + (i + 1)))
   by_cases hlo : (zaB s (at_ + (i + 1))).toNat < 128
   ·refine GO ?_
    refine ⟨?_, rfl⟩
    rw [← hfin]
    exact ret_int (zgE hnd hnl (i + 1) OM hlt OM (by unfold contB; rw [hbb]; omega))
   by_cases hhi : 191 < (zaB s (at_ + (i + 1))).toNat
   ·refine GO ?_
    refine ⟨?_, rfl⟩
    rw [← hfin]
    exact ret_int (zgE hnd hnl (i + 1) OM hlt OM (by unfold contB; rw [hbb]; omega))
   refine GO ?_
   exact ⟨i + 1, ⟨rfl, rfl, rfl, rfl, v_int OM, trivial⟩, ⟨rfl, OM, fun j h1 h2 => by
    rcases (show j < i + 1 ∨ j = i + 1 by omega) with h | h
    ·exact hj j h1 h
    subst h; unfold contB; rw [hbb]; omega⟩, DO⟩
  have hji : ∀ j, 1 ≤ j → j < 3 → contB l j := fun j h1 h2 => hj j h1 OM
  refine GO ?_
  refine Cut.bothI OM OM OM ?_
  have hx : L (s.extract at_ (at_ + 3)) = l.take 3 := by rw [zcn, ← List.take_drop, hld]
  have hxs : (s.extract at_ (at_ + 3)).size = 3 := by rw [← L_len, hx, yar]; omega
  rw [show (((at_ : Nat) : Int)).toNat = at_ by omega, show (((at_ : Nat) : Int) + 3).toNat = at_ + 3 by omega]
  refine GO ?_
  refine Ya (Tryz.call264 _ _) (zcf (s.extract at_ (at_ + 3)) OM OM) ?_
  rintro e w1 ⟨rfl, rfl⟩
  rw [hx]
  refine RT ?_
  have hrl := zoS (l := l) hnd hnl hji
  have hro := rl_ok (l := l) hnd hnl hji
  generalize runeU (l.take 3) = r at *
  generalize hri : ((r : Nat) : Int) = ri at *
  by_cases q1 : ri < 2048
  ·refine GO ?_
   refine ⟨?_, rfl⟩
   rw [← hfin]
   exact ret_int (hrl (.inl (by have : lowN 3 = 2048 := rfl; omega)))
  by_cases q2 : 1114111 < ri
  ·refine GO ?_
   refine ⟨?_, rfl⟩
   rw [← hfin]
   exact ret_int (hrl (.inr (.inl OM)))
  by_cases q3 : 55296 ≤ ri
  ·by_cases q4 : ri ≤ 57343
   ·refine GO ?_
    refine ⟨?_, rfl⟩
    rw [← hfin]
    exact ret_int (hrl (.inr (.inr OM)))
   refine GO ?_
   refine ⟨?_, rfl⟩
   rw [← hfin]
   exact ret_int (by first | exact hro (by have : lowN 3 = 2048 := rfl; omega) | (exfalso; omega))
  refine GO ?_
  refine ⟨?_, rfl⟩
  rw [← hfin]
  exact ret_int (by first | exact hro (by have : lowN 3 = 2048 := rfl; omega) | (exfalso; omega))
 by_cases hD : 240 ≤ b ∧ b ≤ 244
 ·rw [if_neg hB, if_neg hC, if_pos hD] at hnd
  obtain ⟨hD1, hD2⟩ := hD
  refine GO ?_
  by_cases hlen : s.size < at_ + 4
  ·refine GO ?_
   refine ⟨?_, rfl⟩
   rw [← hfin]
   exact ret_int (zkZ (.inr (by rw [hnd]; omega)))
  have hnl : ¬ (4 = 1 ∨ l.length < 4) := OM
  refine GO ?_
  refine Yc (ι := Nat) (fun i => [(0, .string s), (1, .int .i64 (at_ : Nat)), (6, .int .i64 4), (7, .int .i64 65536), (8, .int .i64 ((i + 1 : Nat) : Int))])
   (fun i wr => w = wr ∧ i + 1 ≤ 4 ∧ ∀ j, 1 ≤ j → j < i + 1 → contB l j) (fun i => 4 - i) 0 FR ⟨rfl, OM, fun j h1 h2 => OM⟩ ?_
  rintro i g wr ⟨rfl, hi, hj⟩
  refine GW ?_
  by_cases hlt : i + 1 < 4
  ·have hbb : l.getD (i + 1) 0 = zaB s (at_ + (i + 1)) := by rw [← hld]; exact zdQ (L s) at_ (i + 1)
   have hb1 := UInt8.toNat_lt (zaB s (at_ + (i + 1)))
   by_cases hlo : (zaB s (at_ + (i + 1))).toNat < 128
   ·refine GO ?_
    refine ⟨?_, rfl⟩
    rw [← hfin]
    exact ret_int (zgE hnd hnl (i + 1) OM hlt OM (by unfold contB; rw [hbb]; omega))
   by_cases hhi : 191 < (zaB s (at_ + (i + 1))).toNat
   ·refine GO ?_
    refine ⟨?_, rfl⟩
    rw [← hfin]
    exact ret_int (zgE hnd hnl (i + 1) OM hlt OM (by unfold contB; rw [hbb]; omega))
   refine GO ?_
   exact ⟨i + 1, ⟨rfl, rfl, rfl, rfl, v_int OM, trivial⟩, ⟨rfl, OM, fun j h1 h2 => by
    rcases (show j < i + 1 ∨ j = i + 1 by omega) with h | h
    ·exact hj j h1 h
    subst h; unfold contB; rw [hbb]; omega⟩, DO⟩
  have hji : ∀ j, 1 ≤ j → j < 4 → contB l j := fun j h1 h2 => hj j h1 OM
  refine GO ?_
  refine Cut.bothI OM OM OM ?_
  have hx : L (s.extract at_ (at_ + 4)) = l.take 4 := by rw [zcn, ← List.take_drop, hld]
  have hxs : (s.extract at_ (at_ + 4)).size = 4 := by rw [← L_len, hx, yar]; omega
  rw [show (((at_ : Nat) : Int)).toNat = at_ by omega, show (((at_ : Nat) : Int) + 4).toNat = at_ + 4 by omega]
  refine GO ?_
  refine Ya (Tryz.call264 _ _) (zcf (s.extract at_ (at_ + 4)) OM OM) ?_
  rintro e w1 ⟨rfl, rfl⟩
  rw [hx]
  refine RT ?_
  have hrl := zoS (l := l) hnd hnl hji
  have hro := rl_ok (l := l) hnd hnl hji
  generalize runeU (l.take 4) = r at *
  generalize hri : ((r : Nat) : Int) = ri at *
  by_cases q1 : ri < 65536
  ·refine GO ?_
   refine ⟨?_, rfl⟩
   rw [← hfin]
   exact ret_int (hrl (.inl (by have : lowN 4 = 65536 := rfl; omega)))
  by_cases q2 : 1114111 < ri
  ·refine GO ?_
   refine ⟨?_, rfl⟩
   rw [← hfin]
   exact ret_int (hrl (.inr (.inl OM)))
  by_cases q3 : 55296 ≤ ri
  ·by_cases q4 : ri ≤ 57343
   ·refine GO ?_
    refine ⟨?_, rfl⟩
    rw [← hfin]
    exact ret_int (hrl (.inr (.inr OM)))
   refine GO ?_
   refine ⟨?_, rfl⟩
   rw [← hfin]
   exact ret_int (by first | exact hro (by have : lowN 4 = 65536 := rfl; omega) | (exfalso; omega))
  refine GO ?_
  refine ⟨?_, rfl⟩
  rw [← hfin]
  exact ret_int (by first | exact hro (by have : lowN 4 = 65536 := rfl; omega) | (exfalso; omega))
 rw [if_neg hB, if_neg hC, if_neg hD] at hnd
 have fin : (Ending.returned (.int .i64 1) = .returned (.int .i64 (((decodeL l).2 : Nat) : Int))) ∧ w = w := by
  refine ⟨?_, rfl⟩
  rw [← hfin]
  exact ret_int (zkZ (.inl hnd))
 by_cases q1 : b < 194
 ·refine GO ?_
  exact ⟨fin.1, rfl⟩
 by_cases q2 : 244 < b
 ·refine GO ?_
  exact ⟨fin.1, rfl⟩
 exfalso; omega
end
end Go.Proofs.YtennokckmjcefaaGreatDoor
