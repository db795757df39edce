/- Helper lemmas; no conditions of their own. -/
import Derived.Test.YtennokckmjcefaaGreatDoorGMh6
set_option linter.unusedVariables false
set_option maxHeartbeats 4000000
set_option maxRecDepth 100000
namespace Go.Proofs.YtennokckmjcefaaGreatDoor
open Go.Shelf Go.RowKit Go.Pw Go.Vc Go.Cs Go.Lib Go.Cd
section
variable {w : World} {b : Nat}
theorem zgL (s : St) (h : VarK w b 145 (rdC s)) (hs : stLen s ≤ 140737488355328 / 16) :
  Calls Tryz.prog 63 #[.pointer (some ⟨b, 0, none⟩)] w fun e w' =>
   ∃ v, e = .returned v ∧ OwnI w' w.heap.size v (iL (numsR s).1) ∧ VarK w' b 145 (rdC (numsR s).2) ∧ Kp w w' (one_ b) := by
 have hs0 : ∀ u, s = some u → u.length ≤ 140737488355328 := by rintro u rfl; simp only [stLen] at hs; omega
 have hlt := h.lt
 refine zaa (args := [.pointer (some ⟨b, 0, none⟩)]) Tryz.func63 rfl NL ?_; refine GW ?_
 refine Ya (Tryz.call59 _ _) (zbo s h hs0) ?_
 rintro e w1 ⟨rfl, h1, k1⟩
 refine RT ?_
 have hle := zdn s
 have hn63 := zaW s
 have hnn := @zip s
 have hd : numsR s = match numR s with | (_, none) => ([], none) | (n, some r) => if r.length < n then ([], none) else (match numsG n (some r) with | (_, none) => ([], none) | p => p) := rfl
 obtain ⟨n, s1, hns⟩ : ∃ n s1, numR s = (n, s1) := ⟨_, _, rfl⟩
 rw [hns] at h1 hle hn63 hnn hd
 rw [hns]
 dsimp only at h1 hle hn63 hnn hd ⊢
 obtain ⟨r0, x0, hc0, hr0⟩ : ∃ r0 x0, rdC s1 = [.string (str r0), .bool x0] ∧ r0.length = stLen s1 ∧ (s1 = none → x0 = true) ∧ (∀ r, s1 = some r → r = r0 ∧ x0 = false) := by
  cases s1 with
  | none => exact ⟨[], true, rfl, rfl, fun _ => rfl, fun _ h => by cases h⟩
  | some r => exact ⟨r, false, rfl, rfl, (fun h => by cases h), fun _ h => by injection h with h; exact ⟨h.symm, rfl⟩⟩
 obtain ⟨hr0l, hx1, hx2⟩ := hr0
 have a1 : At w1 b 0 [.string (str r0), .bool x0] := by rw [← hc0]; exact h1.at
 have hsz : (str r0).size = r0.length := rfl
 by_cases hbig : r0.length < n
 ·refine KGO ?_
  refine Ya (Tryz.call119 _ _) (zch s1 h1) ?_
  rintro e w2 ⟨rfl, h2, k2⟩
  refine RT ?_
  have a2 : At w2 b 0 [.string ⟨#[]⟩, .bool true] := h2.at
  have hnil : numsR s = ([], none) := by
   rw [hd]
   cases s1 with
   | none => rfl
   | some r => obtain ⟨rfl, _⟩ := hx2 r rfl; dsimp only; rw [if_pos hbig]
  rw [hnil]
  exact ⟨_, rfl, World.ownsRow_nil _ _ _ _, h2, k1.trans' k2⟩
 cases s1 with
 | none =>
  have hn0 := hnn rfl
  obtain rfl := hx1 rfl
  have hnil : numsR s = ([], none) := hd
  refine KGO ?_
  refine Yc (ι := Unit) (fun i => [(0, .pointer (some ⟨b, 0, none⟩)), (3, .int .i64 (n : Nat)), (4, .slice none 0 0), (5, .int .i64 0)])
   (fun i wr => wr = w1) (fun i => 0) () FR rfl ?_
  rintro ⟨⟩ g wr rfl
  refine GW ?_
  have q2 := Yb wr n_
  refine KGO ?_
  rw [hnil]
  exact ⟨_, rfl, World.ownsRow_nil _ _ _ _, h1, k1⟩
 | some r =>
  obtain ⟨rfl, rfl⟩ := hx2 r rfl
  have hle : r.length ≤ stLen s := hle
  have hb47 : n ≤ 8796093022208 := OM
  have hd : numsR s = (match numsG n (some r) with | (_, none) => ([], none) | p => p) := by rw [hd]; dsimp only; rw [if_neg hbig]
  refine KGO ?_
  refine Yc (ι := Nat × List Nat × List UInt8 × Option Addr × Nat) (fun i => [(0, .pointer (some ⟨b, 0, none⟩)), (3, .int .i64 (n : Nat)), (4, .slice i.2.2.2.1 i.2.1.length i.2.2.2.2), (5, .int .i64 (i.1 : Nat))])
   (fun i wr => Kp w wr (one_ b) ∧ VarK wr b 145 (rdC (some i.2.2.1)) ∧ OwnI wr w.heap.size (.slice i.2.2.2.1 i.2.1.length i.2.2.2.2) (iL i.2.1) ∧ i.1 ≤ n ∧ i.2.1.length = i.1 ∧ i.2.2.1.length ≤ stLen s ∧
    numsG n (some r) = (i.2.1 ++ (numsG (n - i.1) (some i.2.2.1)).1, (numsG (n - i.1) (some i.2.2.1)).2)) (fun i => n - i.1) (0, [], r, none, 0) FR
   ⟨k1, h1, World.ownsRow_nil _ _ _ _, OM, rfl, hle, by simp⟩ ?_
  rintro ⟨i, outs, q, a, c⟩ g wr ⟨hK, hv, ho, hi, hol, hst, hg⟩
  dsimp only at hv ho hi hol hst hg ⊢
  refine GW ?_
  by_cases hlt2 : i < n
  ·refine KGO ?_
   refine Ya (Tryz.call59 _ _) (zbo (some q) hv (fun u e => by injection e with e; subst e; omega)) ?_
   rintro e w3 ⟨rfl, h3, k3⟩
   refine RT ?_
   have o3 : OwnI w3 w.heap.size (.slice a outs.length c) (iL outs) := own_keep ho k3 (fun g hg e => by
    rcases ho.2 with ⟨hn, _⟩ | ⟨g', cap, cur, he, hB, _⟩
    ·rw [hn] at hg; cases hg
    rw [he] at hg; have e1 : g' = g := by simpa [Value.ownBlock] using hg
    have e : g = b := e
    omega)
   have K3 := hK.trans' k3
   have hqlt := zaW (some q)
   have hstq := zdn (some q)
   have hgq : numsG (n - i) (some q) = match numR (some q) with | (_, none) => ([], none) | (m, some r) => (match numsG (n - (i + 1)) (some r) with | (l, s) => (m :: l, s)) := by
    obtain ⟨k, hk⟩ : ∃ k, n - i = k + 1 := ⟨n - i - 1, OM⟩
    rw [hk, show n - (i + 1) = k by omega]; rfl
   obtain ⟨m, t2, hm⟩ : ∃ m t2, numR (some q) = (m, t2) := ⟨_, _, rfl⟩
   rw [hm] at hgq hqlt h3 hstq
   rw [hm]
   dsimp only at hgq hqlt h3 hstq ⊢
   refine Ye (bs1I _ _) ?_
   have k4 : Kp w3 (w3.alloc (.cells (List.toArray (inC (m : Int))) 3)) n_ := (Yb _ _).alloc _
   have h4 := zdr w3 3 (inC (m : Int))
   have o4 := own_keep0 o3 k4
   have v4 := h3.keep0 k4
   generalize w3.alloc (.cells (List.toArray (inC (m : Int))) 3) = w4 at *
   generalize w3.heap.size = g4 at *
   refine KGO ?_
   have K4 := K3.trans0 k4
   have hol2 := zbl outs
   rw [← hol2]
   rw [← hol2] at o4
   refine tyI.app1 (m : Int) o4 K4.size h4 OM OM fun v5 w5 o5 k5 => ?_
   have hap : iL outs ++ [(m : Int)] = iL (outs ++ [m]) := by simp [iL]
   rw [hap] at o5
   obtain ⟨a5, c5, rfl⟩ := zab o5
   have K5 := zav o4 k5 K4 (yag _)
   have v5 : VarK w5 b 145 (rdC t2) := v4.keep k5 (fun e => by
    rcases o4.2 with ⟨hn, _⟩ | ⟨g', cap, cur, he, hB, _⟩
    ·have e : Value.ownBlock (.slice a (iL outs).length c) = some b := e
     rw [hn] at e; cases e
    have e : Value.ownBlock (.slice a (iL outs).length c) = some b := e
    rw [he] at e; have e1 : g' = b := by simpa [Value.ownBlock] using e
    omega)
   cases t2 with
   | none =>
    have a5 : At w5 b 0 [.string ⟨#[]⟩, .bool true] := v5.at
    have q5 := Yb w5 n_
    have hnil : numsR s = ([], none) := by rw [hd, hg, hgq]
    refine KGO ?_
    rw [hnil]
    exact ⟨_, rfl, World.ownsRow_nil _ _ _ _, v5, K5⟩
   | some q2 =>
    have a5' : At w5 b 0 [.string (str q2), .bool false] := v5.at
    have q5 := Yb w5 n_
    refine KGO ?_
    refine ⟨(i + 1, outs ++ [m], q2, a5, c5), ⟨rfl, rfl, congrArg (fun n => Value.slice a5 n c5) (zbl _), VS, trivial⟩, ⟨K5, v5, ?_, OM, by simp [hol], yaw hstq hst, ?_⟩, DO⟩
    ·rw [zbl] at o5; exact o5
    dsimp only
    rw [hg, hgq]; simp
  refine KGO ?_
  have hin : i = n := OM
  subst hin
  rw [ycb] at hg
  have hg : numsG i (some r) = (outs, some q) := by rw [hg]; simp [numsG]
  rw [hd, hg]
  exact ⟨_, rfl, ho, hv, hK⟩
end
end Go.Proofs.YtennokckmjcefaaGreatDoor
namespace Go.Proofs.YtennokckmjcefaaGreatDoor
open Go.RowKit Go.Pw Go.Vc Go.Cs Go.Lib
theorem zkm {α : Type} (f : α → List Value) (n : Nat) (hf : ∀ x, (f x).length = n) (u : Value) : ∀ (l : List α) (i j : Nat) (x y : α), l[i]? = some x → j < n → f y = (f x).set j u → (l.flatMap f).set (i * n + j) u = (l.set i y).flatMap f
 | [], i, j, x, y, h, _, _ => by simp at h
 | a :: r, 0, j, x, y, h, hj, he => by
  simp at h; subst h
  rw [yao, List.set_append_left _ _ (by rw [hf]; omega), List.set_cons_zero, yao, he]
  simp
 | a :: r, i + 1, j, x, y, h, hj, he => by
  rw [yao, List.set_append_right _ _ (by rw [hf, ybB]; omega), hf, show (i + 1) * n + j - n = i * n + j by rw [ybB]; omega, zkm f n hf u r i j x y (by simpa using h) hj he]
  simp
def mk0 (p : Nat × Nat) : Wd := ([], p.1, p.2)
theorem zdD (a b : Int) (w : World) : (Instr.build 116 [(1, .int .i64 a), (2, .int .i64 b)].toArray).run Tryz.prog w = .ok (.agg #[.string ⟨#[]⟩, .int .i64 a, .int .i64 b]) w := by
 simp [Instr.build, Instr.fill, go_sem, Tryz.runUnderlying116]
theorem zle {w : World} {B g cap : Nat} {l : List Wd} (h : Wds w B (.slice (some ⟨g, 0, none⟩) l.length cap) l) {i : Nat} {x y : Wd} (hi : l[i]? = some x) (j : Nat) (hj : j < 3) (u : Value) (he : wordCells y = (wordCells x).set j u) :
  Wds (w.setCell ⟨g, 0 + i * 3 + j, none⟩ u) B (.slice (some ⟨g, 0, none⟩) l.length cap) (l.set i y) := by
 have h1 := (World.ownsRow.stored h (0 + i * 3 + j) u).1
 unfold Wds
 rw [ybm, ← zkm wordCells 3 (fun _ => rfl) u l i j x y hi hj he]
 rw [yaU] at h1 ⊢
 exact h1
def half (l : List UInt8) (ps : List (Nat × Nat)) (i : Nat) : List Wd := (ps.take i).map (mk l) ++ (ps.drop i).map mk0
theorem zlQ (l : List UInt8) (ps : List (Nat × Nat)) (i : Nat) (hi : i ≤ ps.length) : (half l ps i).length = ps.length := by
 unfold half; simp; omega
theorem znQ (l : List UInt8) (ps : List (Nat × Nat)) (i : Nat) (hi : i < ps.length) : (half l ps i)[i]? = some (mk0 ps[i]) := by
 unfold half
 rw [List.getElem?_append_right (by simp; omega)]
 simp [yaJ (Nat.le_of_lt hi), hi]
theorem zqw (l : List UInt8) (ps : List (Nat × Nat)) (i : Nat) (hi : i < ps.length) : (half l ps i).set i (mk l ps[i]) = half l ps (i + 1) := by
 unfold half
 rw [List.set_append_right _ _ (by simp; omega), yat hi, yad hi]
 rw [yaf, yar, yaJ (Nat.le_of_lt hi), ycb, yas, List.set_cons_zero, yaL, yap]
 rfl
section
variable {w : World}
theorem zjI (s : ByteArray) (hs : s.size ≤ 10000000) : Calls Tryz.prog 218 #[.string s] w fun e w' => ∃ v, e = .returned v ∧ Wds w' w.heap.size v (wordsL (L s)) ∧ Kp w w' n_ := by
 have hl := L_len s
 have hul := zil (L s)
 have hun := zgy (L s)
 have hcl := zhJ (L s)
 have hW := us_W (L s)
 have hfin := (znI (us (L s)) (fun q hq => (hcl q hq).1) 0 []).1
 rw [yaT] at hfin
 have hbd := zoB (L s)
 rw [zjq]
 rw [zhQ] at hfin hW hcl
 rw [zhQ] at hbd
 rw [zhQ]
 refine zaa (args := [.string s]) Tryz.func218 rfl NL ?_; refine GW ?_
 refine Ya (Tryz.call251 _ _) (zfH (w := w) s OM) ?_
 rintro e w1 ⟨v1, rfl, hU, k1⟩
 generalize units (L s) = U at *
 obtain ⟨au, cu, rfl, hrd⟩ := zis hU
 refine RT ?_
 refine GO ?_
 refine Yc (ι := Nat × Nat × Bool × Option Addr × Nat × List (Nat × Nat)) (fun i => [(0, .string s), (3, .slice au U.length cu), (4, .slice i.2.2.2.1 i.2.2.2.2.2.length i.2.2.2.2.1), (5, .int .i64 (i.2.1 : Nat)), (6, .bool i.2.2.1), (7, .int .i64 (i.1 : Nat))])
  (fun i wr => Kp w1 wr n_ ∧ i.1 ≤ U.length ∧ Wds wr w1.heap.size (.slice i.2.2.2.1 i.2.2.2.2.2.length i.2.2.2.2.1) (i.2.2.2.2.2.map mk0) ∧
   refW ((U.drop i.1).map fun u => (clsN (decodeL u), u.length)) i.2.1 i.2.2.2.2.2 i.2.2.1 = wd (U.map fun u => (clsN (decodeL u), u.length)) 0 none ∧
   i.2.1 + W ((U.drop i.1).map fun u => (clsN (decodeL u), u.length)) = s.size ∧ (∀ p ∈ i.2.2.2.2.2, p.1 ≤ p.2 ∧ p.2 ≤ i.2.1) ∧ i.2.2.2.2.2.length ≤ i.1 ∧ (i.2.2.1 = true → i.2.2.2.2.2 ≠ [])) (fun i => U.length - i.1) (0, 0, false, none, 0, []) FR
  ⟨Yb _ _, yal _, World.ownsRow_nil _ _ _ _, hfin, by rw [List.drop_zero, hW, hl]; simp, by simp, yag _, by simp⟩ ?_
 rintro ⟨n, at_, op, a, cap, ps⟩ g wr ⟨hK, hn, hv, he, hat, hps, hpl, hop⟩
 dsimp only at hn hv he hat hps hpl hop ⊢
 refine GW ?_
 by_cases hlt : n < U.length
 ·obtain ⟨gu, rfl, hg, hau⟩ := hrd OM
  have c0 : wr.cell? ⟨gu, 0 + n, none⟩ = some (.string (str U[n])) := znJ (zbe hau hK) hlt
  have c0d : wr.drew.cell? ⟨gu, 0 + n, none⟩ = some (.string (str U[n])) := c0
  have hu := hun U[n] (yak hlt)
  have hk2 := (hcl (clsN (decodeL U[n]), U[n].length) (yax (yak hlt))).1
  rw [yat hlt, yas, refW] at he
  rw [yat hlt, yas, W_cons] at hat
  have hul4 := zlN _ hu
  have hof := zqZ (w := wr) U[n] hu hul4
  generalize U[n] = u at *
  have hsz : (str u).size = u.length := zec u
  dsimp only at hk2 hat
  generalize clsN (decodeL u) = k at *
  refine GO ?_
  refine Ya (Tryz.call252 _ _) hof ?_
  rintro e w2 ⟨rfl, rfl⟩
  refine RT ?_
  have c00 : w1.cell? ⟨gu, 0 + n, none⟩ = some (.string (str u)) := (hK.cell (p := ⟨gu, 0 + n, none⟩) hg id).symm.trans c0
  rcases (show k = 0 ∨ k = 1 ∨ k = 2 by omega) with rfl | rfl | rfl
  ·rw [if_neg OM, if_neg OM] at he
   refine GO ?_
   exact ⟨(n + 1, at_ + u.length, false, a, cap, ps), ⟨rfl, rfl, rfl, v_int (by rw [hsz]; simp), rfl, VS, trivial⟩, ⟨hK.drew, DO, hv, he, DO, fun p hp => by have := hps p hp; dsimp only; omega, DO, fun h => by cases h⟩, DO⟩
  ·cases op with
   | false =>
    rw [if_neg (by simp), if_pos OM] at he
    refine GO ?_
    rw [show ((at_ : Int) + ((str u).size : Nat)) = ((at_ + u.length : Nat) : Int) by rw [hsz]; rfl]
    refine Ye (zdD _ _ _) ?_
    refine GW ?_
    refine Ye (zcs _ _ _ _) ?_
    refine GW ?_
    refine zfd (w := wr.drew) (B := w1.heap.size) hv (yaw hK.size (Yb wr n_).drew.size) (mk0 (at_, at_ + u.length)) (by rw [yaf]; omega) fun v' w3 h3 g3 => ?_
    have K3 : Kp w1 w3 n_ := (hK.drew.alloc _).own (own_keep0 (w := wr.drew) hv ((Yb _ _).alloc _)) (yag _) g3
    have e3 : List.map mk0 ps ++ [mk0 (at_, at_ + u.length)] = List.map mk0 (ps ++ [(at_, at_ + u.length)]) := by simp
    rw [e3] at h3
    obtain ⟨a3, c3, rfl⟩ : ∃ a c, v' = .slice a (ps ++ [(at_, at_ + u.length)]).length c := by
     obtain ⟨a, c, e⟩ := zab h3
     exact ⟨a, c, by rw [e, yaf]⟩
    have c3 : w3.cell? ⟨gu, 0 + n, none⟩ = some (.string (str u)) := (K3.cell (p := ⟨gu, 0 + n, none⟩) hg id).trans c00
    refine GO ?_
    exact ⟨(n + 1, at_ + u.length, true, a3, _, ps ++ [(at_, at_ + u.length)]), ⟨rfl, rfl, rfl, v_int (by rw [hsz]; simp), rfl, VS, trivial⟩, ⟨K3, DO, h3, he, DO, fun p hp => by
     dsimp only at hp ⊢
     rcases yaj.1 hp with h | h
     ·have := hps p h; omega
     simp at h; subst h; dsimp only; omega, by dsimp only; rw [List.length_append]; show ps.length + 1 ≤ _; omega, fun _ => by simp⟩, DO⟩
   | true =>
    obtain ⟨C, q, hq⟩ : ∃ C q, ps = C ++ [q] := ⟨ps.dropLast, ps.getLast (hop rfl), (List.dropLast_concat_getLast (hop rfl)).symm⟩
    have hpq := hps q (by rw [hq]; simp)
    have hlC : ps.length = C.length + 1 := by rw [hq]; simp
    have hrd2 := zis hv
    obtain ⟨ag, ac, hae, hrd2⟩ := hrd2
    injection hae with ha1 ha2 ha3
    subst ha1
    obtain ⟨go, rfl, hgo, hat2⟩ := hrd2 (by rw [yaf]; omega)
    have hi1 : C.length < (List.map mk0 ps).length := by rw [yaf]; omega
    have hcs := zht hat2 hi1
    have hqe : (List.map mk0 ps)[C.length] = mk0 q := by simp [hq]
    rw [hqe] at hcs
    have d1 : wr.drew.cell? ⟨go, 0 + C.length * 3 + 1, none⟩ = some (.int .i64 (q.1 : Nat)) := hcs 1 _ rfl
    have d2 : wr.drew.cell? ⟨go, 0 + C.length * 3 + 2, none⟩ = some (.int .i64 (q.2 : Nat)) := hcs 2 _ rfl
    rw [show ((ps.length : Nat) : Int) - 1 = ((C.length : Nat) : Int) by omega]
    have he1 : ps.getLastD (0, 0) = q := by rw [hq, List.getLastD_concat]
    have he2 : ps.dropLast = C := by rw [hq, List.dropLast_concat]
    rw [he1, he2] at he
    by_cases h40 : q.2 - q.1 + u.length ≤ 40
    ·rw [if_pos ⟨rfl, rfl, h40⟩] at he
     have d3 : wr.drew.drew.cell? ⟨go, 0 + C.length * 3 + 2, none⟩ = some (.int .i64 (q.2 : Nat)) := d2
     have d4 : wr.drew.drew.cell? ⟨gu, 0 + n, none⟩ = some (.string (str u)) := c0
     refine GO ?_
     rw [show ((q.2 : Nat) : Int) + ((str u).size : Nat) = ((q.2 + u.length : Nat) : Int) by rw [hsz]; rfl]
     have hvn : wr.drew.drew.ownsRow w1.heap.size 116 3 (.slice (some ⟨go, 0, none⟩) ps.length cap) ps.length ((ps.map mk0).flatMap wordCells) := by
      have h := hv
      unfold Wds at h
      rw [yaf] at h
      exact h
     refine Store.one (by rfl) ⟨rfl, by simp, by simp⟩ d3 (World.ownsRow.frozenAt hvn _) ?_
     have hv2 := zle (w := wr.drew.drew) (B := w1.heap.size) (g := go) (cap := cap) (l := List.map mk0 ps) (by rw [yaf]; exact hv) (i := C.length) (x := mk0 q) (y := mk0 (q.1, q.2 + u.length)) (by rw [List.getElem?_eq_getElem hi1, hqe]) 2 OM (.int .i64 ((q.2 + u.length : Nat) : Int)) rfl
     have hset : (List.map mk0 ps).set C.length (mk0 (q.1, q.2 + u.length)) = List.map mk0 (C ++ [(q.1, q.2 + u.length)]) := by
      rw [hq, yaL, List.set_append_right _ _ (by simp)]; simp
     rw [hset, yaf] at hv2
     have hgb : w1.heap.size ≤ go := (hv.lt go rfl).1
     have K3 : Kp w1 (wr.drew.drew.setCell ⟨go, 0 + C.length * 3 + 2, none⟩ (.int .i64 ((q.2 + u.length : Nat) : Int))) n_ := hK.drew.drew.setCell (p := ⟨go, 0 + C.length * 3 + 2, none⟩) (.inr hgb) _
     generalize wr.drew.drew.setCell ⟨go, 0 + C.length * 3 + 2, none⟩ (.int .i64 ((q.2 + u.length : Nat) : Int)) = w3 at *
     have c3 : w3.cell? ⟨gu, 0 + n, none⟩ = some (.string (str u)) := (K3.cell (p := ⟨gu, 0 + n, none⟩) hg id).trans c00
     have hl3 : ps.length = (C ++ [(q.1, q.2 + u.length)]).length := by rw [hlC]; simp
     rw [hl3]
     refine GO ?_
     exact ⟨(n + 1, at_ + u.length, true, _, cap, C ++ [(q.1, q.2 + u.length)]), ⟨rfl, rfl, rfl, v_int (by rw [hsz]; simp), rfl, VS, trivial⟩, ⟨K3, DO, by dsimp only; rw [← hl3]; exact hv2, he, DO, fun p hp => by
      dsimp only at hp ⊢
      rcases yaj.1 hp with h | h
      ·have := hps p (by rw [hq]; simp [h]); omega
      simp at h; subst h; dsimp only; omega, by dsimp only; rw [← hl3]; omega, fun _ => by simp⟩, DO⟩
    rw [if_neg (fun h => h40 h.2.2), if_pos OM] at he
    refine GO ?_
    rw [show ((at_ : Int) + ((str u).size : Nat)) = ((at_ + u.length : Nat) : Int) by rw [hsz]; rfl]
    refine Ye (zdD _ _ _) ?_
    refine GW ?_
    refine Ye (zcs _ _ _ _) ?_
    refine GW ?_
    refine zfd (w := wr.drew) (B := w1.heap.size) hv (yaw hK.size (Yb wr n_).drew.size) (mk0 (at_, at_ + u.length)) (by rw [yaf]; omega) fun v' w3 h3 g3 => ?_
    have K3 : Kp w1 w3 n_ := (hK.drew.alloc _).own (own_keep0 (w := wr.drew) hv ((Yb _ _).alloc _)) (yag _) g3
    have e3 : List.map mk0 ps ++ [mk0 (at_, at_ + u.length)] = List.map mk0 (ps ++ [(at_, at_ + u.length)]) := by simp
    rw [e3] at h3
    obtain ⟨a3, c3, rfl⟩ : ∃ a c, v' = .slice a (ps ++ [(at_, at_ + u.length)]).length c := by
     obtain ⟨a, c, e⟩ := zab h3
     exact ⟨a, c, by rw [e, yaf]⟩
    have c3 : w3.cell? ⟨gu, 0 + n, none⟩ = some (.string (str u)) := (K3.cell (p := ⟨gu, 0 + n, none⟩) hg id).trans c00
    refine GO ?_
    exact ⟨(n + 1, at_ + u.length, true, a3, _, ps ++ [(at_, at_ + u.length)]), ⟨rfl, rfl, rfl, v_int (by rw [hsz]; simp), rfl, VS, trivial⟩, ⟨K3, DO, h3, he, DO, fun p hp => by
     dsimp only at hp ⊢
     rcases yaj.1 hp with h | h
     ·have := hps p h; omega
     simp at h; subst h; dsimp only; omega, by dsimp only; rw [List.length_append]; show ps.length + 1 ≤ _; omega, fun _ => by simp⟩, DO⟩
  rw [if_neg OM, if_pos OM] at he
  refine GO ?_
  rw [show ((at_ : Int) + ((str u).size : Nat)) = ((at_ + u.length : Nat) : Int) by rw [hsz]; rfl]
  refine Ye (zdD _ _ _) ?_
  refine GW ?_
  refine Ye (zcs _ _ _ _) ?_
  refine GW ?_
  refine zfd (w := wr.drew) (B := w1.heap.size) hv (yaw hK.size (Yb wr n_).drew.size) (mk0 (at_, at_ + u.length)) (by rw [yaf]; omega) fun v' w3 h3 g3 => ?_
  have K3 : Kp w1 w3 n_ := (hK.drew.alloc _).own (own_keep0 (w := wr.drew) hv ((Yb _ _).alloc _)) (yag _) g3
  have e3 : List.map mk0 ps ++ [mk0 (at_, at_ + u.length)] = List.map mk0 (ps ++ [(at_, at_ + u.length)]) := by simp
  rw [e3] at h3
  obtain ⟨a3, c3, rfl⟩ : ∃ a c, v' = .slice a (ps ++ [(at_, at_ + u.length)]).length c := by
   obtain ⟨a, c, e⟩ := zab h3
   exact ⟨a, c, by rw [e, yaf]⟩
  have c3 : w3.cell? ⟨gu, 0 + n, none⟩ = some (.string (str u)) := (K3.cell (p := ⟨gu, 0 + n, none⟩) hg id).trans c00
  refine GO ?_
  exact ⟨(n + 1, at_ + u.length, false, a3, _, ps ++ [(at_, at_ + u.length)]), ⟨rfl, rfl, rfl, v_int (by rw [hsz]; simp), rfl, VS, trivial⟩, ⟨K3, DO, h3, he, DO, fun p hp => by
   dsimp only at hp ⊢
   rcases yaj.1 hp with h | h
   ·have := hps p h; omega
   simp at h; subst h; dsimp only; omega, by dsimp only; rw [List.length_append]; show ps.length + 1 ≤ _; omega, fun _ => by simp⟩, DO⟩
 refine GO ?_
 have hnn : n = U.length := OM
 subst hnn
 rw [yce, ybg, refW] at he
 rw [← he] at hbd ⊢
 have hvn : wr.ownsRow w1.heap.size 116 3 (.slice a ps.length cap) ps.length ((half (L s) ps 0).flatMap wordCells) := by
  have h := hv
  unfold Wds at h
  rw [yaf] at h
  exact h
 have hpsz : ∀ p ∈ ps, p.1 ≤ p.2 ∧ p.2 ≤ s.size := fun p hp => by have := hps p hp; omega
 clear hv hfin hps he hcl hbd hop hat
 refine Yc (ι := Nat) (fun i => [(0, .string s), (4, .slice a ps.length cap), (10, .int .i64 (i : Nat))])
  (fun i wr => Kp w1 wr n_ ∧ i ≤ ps.length ∧ wr.ownsRow w1.heap.size 116 3 (.slice a ps.length cap) ps.length ((half (L s) ps i).flatMap wordCells)) (fun i => ps.length - i) 0 FR
  ⟨hK, yal _, hvn⟩ ?_
 rintro i g2 wr2 ⟨hK2, hi, hv2⟩
 refine GW ?_
 by_cases hlt2 : i < ps.length
 ·obtain ⟨go, rfl, hgb, hgo, hat2⟩ := zdY hv2 OM
  have hlh := zlQ (L s) ps i hi
  have hih : i < (half (L s) ps i).length := OM
  have hcs := zht hat2 hih
  have hqe : (half (L s) ps i)[i] = mk0 ps[i] := by
   have h1 := znQ (L s) ps i hlt2
   rw [List.getElem?_eq_getElem hih] at h1
   exact Option.some.inj h1
  rw [hqe] at hcs
  have hpp := hpsz ps[i] (yak hlt2)
  have hset := zqw (L s) ps i hlt2
  have hgx := znQ (L s) ps i hlt2
  generalize ps[i] = q at *
  have f0 : ∀ u, Kp wr2 u n_ → u.cell? ⟨go, 0 + i * 3 + 0, none⟩ = some (.string ⟨#[]⟩) := fun u k => zbe hcs k 0 _ rfl
  have f1 : ∀ u, Kp wr2 u n_ → u.cell? ⟨go, 0 + i * 3 + 1, none⟩ = some (.int .i64 (q.1 : Nat)) := fun u k => zbe hcs k 1 _ rfl
  have f2 : ∀ u, Kp wr2 u n_ → u.cell? ⟨go, 0 + i * 3 + 2, none⟩ = some (.int .i64 (q.2 : Nat)) := fun u k => zbe hcs k 2 _ rfl
  refine GO ?_
  have d1 : wr2.drew.cell? ⟨go, 0 + i * 3 + 1, none⟩ = some (.int .i64 (q.1 : Nat)) := f1 _ (Yb _ _).drew
  have d2 : wr2.drew.cell? ⟨go, 0 + i * 3 + 2, none⟩ = some (.int .i64 (q.2 : Nat)) := f2 _ (Yb _ _).drew
  obtain ⟨hp1, hp2⟩ := hpp
  refine GO ?_
  have hLx : L (s.extract q.1 q.2) = cutL (L s) q := zcn s q.1 q.2
  refine Ya (Tryz.call253 _ _) (zmH (w := wr2.drew) (s.extract q.1 q.2) (by rw [ByteArray.size_extract]; omega)) ?_
  rintro e w3 ⟨rfl, k3⟩
  rw [hLx]
  have k3' : Kp wr2 w3 n_ := (Yb _ _).drew.trans0 k3
  refine RT ?_
  refine GO ?_
  have hv3 : w3.ownsRow w1.heap.size 116 3 (.slice (some ⟨go, 0, none⟩) ps.length cap) ps.length ((half (L s) ps i).flatMap wordCells) := own_keep0 hv2 k3'
  refine Store.one (by rfl) ⟨rfl, by simp, by simp⟩ (f0 w3 k3') (World.ownsRow.frozenAt hv3 _) ?_
  have hv4 := zle (w := w3) (B := w1.heap.size) (g := go) (cap := cap) (l := half (L s) ps i) (by rw [← hlh] at hv3; exact hv3) (i := i) (x := mk0 q) (y := mk (L s) q) hgx 0 OM (.string (str (foldL (cutL (L s) q)))) rfl
  rw [hset] at hv4
  have K4 : Kp w1 (w3.setCell ⟨go, 0 + i * 3 + 0, none⟩ (.string (str (foldL (cutL (L s) q))))) n_ := (hK2.trans0 k3').setCell (p := ⟨go, 0 + i * 3 + 0, none⟩) (.inr hgb) _
  have hv5 : (w3.setCell ⟨go, 0 + i * 3 + 0, none⟩ (.string (str (foldL (cutL (L s) q))))).ownsRow w1.heap.size 116 3 (.slice (some ⟨go, 0, none⟩) ps.length cap) ps.length ((half (L s) ps (i + 1)).flatMap wordCells) := by
   have hl5 := zlQ (L s) ps (i + 1) OM
   unfold Wds at hv4
   rw [hl5, hlh] at hv4
   exact hv4
  generalize w3.setCell ⟨go, 0 + i * 3 + 0, none⟩ (.string (str (foldL (cutL (L s) q)))) = w4 at *
  refine GO ?_
  exact ⟨i + 1, FR, ⟨K4, OM, hv5⟩, DO⟩
 refine GO ?_
 have e : i = ps.length := OM
 subst e
 refine ⟨_, rfl, ?_, k1.trans0 hK2⟩
 unfold Wds
 rw [yaf]
 have hh : half (L s) ps ps.length = ps.map (mk (L s)) := by unfold half; simp
 rw [hh] at hv2
 exact own_base hv2 k1.size
end
section
variable {w : World}
theorem zmD (s : ByteArray) (hs : s.size ≤ 10000000) : Calls Tryz.prog 158 #[.string s] w fun e w' => ∃ v, e = .returned v ∧ Txs w' w.heap.size v (listL (L s)) ∧ Kp w w' n_ := by
 have hLs : (L s).length = s.size := by simp [L]
 have hwl := zds (L s)
 refine zaa (args := [.string s]) Tryz.func158 rfl NL ?_; refine GW ?_
 refine GO ?_
 refine Ya (Tryz.call218 _ _) (zjI s hs) ?_
 rintro e w1 ⟨v, rfl, hW, k1⟩
 unfold listL
 generalize wordsL (L s) = W at *
 obtain ⟨a, cap, rfl, hr⟩ := zis hW
 refine RT ?_
 refine GO ?_
 refine Yc (ι := Nat × Option Addr × Nat × List (List UInt8)) (fun i => [(3, .slice a W.length cap), (4, .slice i.2.1 i.2.2.2.length i.2.2.1), (5, .int .i64 (i.1 : Nat))])
  (fun i wr => Kp w1 wr n_ ∧ i.1 ≤ W.length ∧ i.2.2.2 = (W.take i.1).map (·.1) ∧ Txs wr w1.heap.size (.slice i.2.1 i.2.2.2.length i.2.2.1) i.2.2.2) (fun i => W.length - i.1) (0, none, 0, []) FR
  ⟨Yb _ _, yal _, rfl, ?_⟩ ?_
 ·exact World.ownsRow_nil _ _ _ _
 rintro ⟨i, va, vc, l⟩ gg wr ⟨hK1, hi, hl, hT⟩
 dsimp only at hi hl hT ⊢
 have hll : l.length = i := by rw [hl]; simp; omega
 refine GW ?_
 by_cases hlt : i < W.length
 ·obtain ⟨g1, rfl, b1, h1⟩ := hr OM
  have c1 : wr.cell? ⟨g1, 0 + i * 3, none⟩ = some (.string (str W[i].1)) := zht (zbe h1 hK1) hlt 0 _ rfl
  refine GO ?_
  refine Ye (zey _ _) ?_
  refine GW ?_
  refine zhn hT hK1.size W[i].1 OM fun v' w3 h3 g3 => ?_
  obtain ⟨a3, c3, rfl⟩ : ∃ a c, v' = .slice a (l ++ [W[i].1]).length c := zab h3
  refine GO ?_
  have K3 : Kp w1 w3 n_ := (hK1.alloc _).own (own_keep0 hT ((Yb _ _).alloc _)) (yag _) g3
  exact ⟨(i + 1, a3, c3, l ++ [W[i].1]), FR, ⟨K3, DO, by dsimp only; rw [List.take_succ_eq_append_getElem hlt, List.map_append, hl]; rfl, h3⟩, DO⟩
 refine GO ?_
 have e : i = W.length := OM
 rw [e, yaD] at hl
 refine ⟨_, rfl, ?_, k1.trans0 hK1⟩
 rw [← hl]
 exact own_base hT k1.size
end
end Go.Proofs.YtennokckmjcefaaGreatDoor
namespace Go.Proofs.YtennokckmjcefaaGreatDoor
open Go.Shelf Go.RowKit Go.Pw Go.Vc Go.Cs Go.Lib Go.Cd Go.Mg
section
variable {w : World}
theorem zmn {v : Value} (l : List Pst) (hv : RowP w v l) (hl : l.length ≤ 1000000000000) (hpn : ∀ p ∈ l, p.places.length ≤ 17592186044416) : Calls Tryz.prog 217 #[v] w fun e w' => e = .returned (.bool (zan l)) ∧ Kp w w' n_ := by
 obtain ⟨lx, rfl, hv⟩ := hv
 rw [yaf] at hl
 have hpn : ∀ x ∈ lx, x.p.places.length ≤ 17592186044416 := fun x hx => hpn x.p (yax hx)
 have hv0 := hv
 obtain ⟨⟨a, ca, rfl, hra⟩, hpl, _, _⟩ := hv
 refine zaa (args := [.slice a lx.length ca]) Tryz.func217 rfl NL ?_; refine GW ?_
 refine Yc (ι := Nat × Int) (fun i => [(0, .slice a lx.length ca), (2, .bool false), (3, .int .i64 i.2), (4, .int .i64 (i.1 : Nat))])
  (fun i wr => Kp w wr n_ ∧ i.1 ≤ lx.length ∧ (∀ x ∈ lx.take i.1, okPl x.p = true) ∧ 0 ≤ i.2 ∧ i.2 ≤ 1099511627776 ∧ Mg.risesB 1 (lx.map (·.p.doc)) = Mg.risesB (i.2 + 1) ((lx.drop i.1).map (·.p.doc))) (fun i => lx.length - i.1) (0, 0) FR ⟨Yb _ _, yal _, by simp, by decide, by decide, rfl⟩ ?_
 rintro ⟨i, doc⟩ gg wr ⟨hK, hi, ht, hd0, hd1, hd⟩
 dsimp only at hi ht hd0 hd1 hd ⊢
 have hmm : (lx.map (·.p)).map (·.doc) = lx.map (·.p.doc) := by rw [ybe]; rfl
 have hno2 : Mg.risesB 1 (lx.map (·.p.doc)) = false → zan (lx.map (·.p)) = false := fun h => by
  unfold zan; rw [hmm, h, Bool.and_false]
 refine GW ?_
 by_cases hlt : i < lx.length
 ·obtain ⟨ga, oa, rfl, hga, hata⟩ := hra OM
  have hpi := hpl lx[i] (yak hlt)
  have hno : okPl lx[i].p = false → zan (lx.map (·.p)) = false := fun h => by
   unfold zan
   rw [ybZ.2 ⟨lx[i].p, yax (yak hlt), by rw [h]; decide⟩]; rfl
  have hn := Yl hpi
  have hpni := hpn _ (yak hlt)
  rw [yat hlt, yas, Mg.risesB] at hd
  by_cases h1 : lx[i].p.doc ≤ doc
  ·refine KGO ?_
   exact ⟨ret_bool (hno2 (by rw [hd, decide_eq_false OM]; rfl)).symm, hK⟩
  by_cases h2 : 1099511627776 < lx[i].p.doc
  ·refine KGO ?_
   exact ⟨ret_bool (hno2 (by rw [hd, decide_eq_false OM]; rfl)).symm, hK⟩
  refine KGO ?_
  rw [hn]
  by_cases h0 : lx[i].p.places.length = 0
  ·refine KGO ?_
   exact ⟨ret_bool (hno (by unfold okPl; rw [List.eq_nil_of_length_eq_zero h0]; rfl)).symm, hK⟩
  refine KGO ?_
  have hok : okPl lx[i].p = Mg.risesB 0 lx[i].p.places := by
   unfold okPl
   rw [show lx[i].p.places.isEmpty = false from by cases h : lx[i].p.places with | nil => rw [h] at h0; exact absurd rfl h0 | cons => rfl]; rfl
  obtain ⟨pa, pc, hpe, hpr⟩ := hpi
  have hsl : lx[i].h = ⟨pa, lx[i].p.places.length, pc⟩ := by
   have e := hpe
   unfold Sl.v at e
   injection e with e1 e2 e3
   cases hh : lx[i].h with
   | mk x1 x2 x3 => rw [hh] at e1 e2 e3; dsimp only at e1 e2 e3; rw [e1, e2, e3]
  generalize hPL : lx[i].p.places = PL at *
  refine Yc (ι := Nat × Int) (fun k => [(0, .slice (some ⟨ga, oa, none⟩) lx.length ca), (2, .bool false), (3, .int .i64 lx[i].p.doc), (4, .int .i64 (i : Nat)), (5, .int .i64 k.2), (6, .int .i64 (k.1 : Nat))])
   (fun k wq => Kp w wq n_ ∧ k.1 ≤ PL.length ∧ -1 ≤ k.2 ∧ k.2 ≤ 1099511627776 ∧ Mg.risesB 0 PL = Mg.risesB (k.2 + 1) (PL.drop k.1)) (fun k => PL.length - k.1) (0, -1) FR ⟨hK, yal _, by decide, by decide, rfl⟩ ?_
  rintro ⟨k, pt⟩ gg2 wq ⟨hK2, hk, hp0, hp1, hpd⟩
  dsimp only at hk hp0 hp1 hpd ⊢
  refine GW ?_
  by_cases hlk : k < PL.length
  ·obtain ⟨gp, op, rfl, hgp, hatp⟩ := hpr OM
   have cp := zaJ hatp hlk
   rw [yat hlk, Mg.risesB] at hpd
   have hrow : ∀ q : Nat, lx[i].h.n = q → True := fun _ _ => trivial
   refine KGO ?_
   rw [hsl]
   dsimp only
   by_cases h3 : PL[k] ≤ pt
   ·refine KGO ?_
    exact ⟨ret_bool (hno (by rw [hok, hpd, decide_eq_false OM]; rfl)).symm, hK2⟩
   by_cases h4 : 1099511627776 < PL[k]
   ·refine KGO ?_
    exact ⟨ret_bool (hno (by rw [hok, hpd, decide_eq_false OM]; rfl)).symm, hK2⟩
   refine KGO ?_
   exact ⟨(k + 1, PL[k]), FR, ⟨hK2, OM, DO, DO, by rw [hpd, decide_eq_true OM]; rfl⟩, DO⟩
  rw [yaP OM] at hpd
  refine KGO ?_
  exact ⟨(i + 1, lx[i].p.doc), FR, ⟨hK2, OM, fun x hx => by
   rw [yad hlt, yaj, yac] at hx
   rcases hx with hx | rfl
   ·exact ht x hx
   rw [hok, hpd]; rfl, DO, DO, by rw [hd, decide_eq_true OM]; rfl⟩, DO⟩
 rw [yaz OM] at ht
 rw [yaP OM] at hd
 refine KGO ?_
 exact ⟨ret_bool (by
  unfold zan
  rw [yaF.2 (fun p hp => by obtain ⟨x, hx, rfl⟩ := yay.1 hp; exact ht x hx), hmm, hd]; rfl), hK⟩
end
section
variable {w : World}
theorem zfD {v : Value} (l : List Pst) (hv : RowP w v l) (hl : l.length ≤ 1000000000000) (hpn : ∀ p ∈ l, p.places.length ≤ 17592186044416) (hsz : 9 * (encN 0 l).length + 9 ≤ 140737488355328) :
  Calls Tryz.prog 155 #[v] w fun e w' => e = .returned (.string (str (encP l))) ∧ Kp w w' n_ := by
 have hv0 := hv
 obtain ⟨lx, rfl, hv⟩ := hv
 rw [yaf] at hl
 obtain ⟨⟨a, ca, rfl, hra⟩, hpl, _, _⟩ := hv
 refine zaa (args := [.slice a lx.length ca]) Tryz.func155 rfl NL ?_; refine GW ?_
 refine Ya (Tryz.call217 _ _) (zmn (w := w) (lx.map (·.p)) hv0 (by rw [yaf]; exact hl) hpn) ?_
 rintro e w1 ⟨rfl, k1⟩
 refine RT ?_
 cases hq : zan (lx.map (·.p)) with
 | false =>
  refine KGO ?_
  exact ⟨by unfold encP; rw [hq]; rfl, k1⟩
 | true =>
 refine KGO ?_
 have hr := zbL.1 hq
 have hdl := zfj hq
 have hel := zcT (lx.map (·.p))
 have het := zcz hq
 rw [yaf] at het
 obtain ⟨tot, htot⟩ : ∃ t, encP (lx.map (·.p)) = t := ⟨_, rfl⟩
 rw [htot] at hel het
 refine Ya (Tryz.call72 _ _) (zbR (w := w1) lx.length OM) ?_
 rintro e w2 ⟨rfl, k2⟩
 have J2 := k1.trans0 k2
 refine RT ?_
 refine Yc (ι := Nat × Int × List UInt8) (fun i => [(0, .slice a lx.length ca), (4, .string (str i.2.2)), (5, .int .i64 i.2.1), (6, .int .i64 (i.1 : Nat))])
  (fun i wr => Kp w wr n_ ∧ i.1 ≤ lx.length ∧ 0 ≤ i.2.1 ∧ i.2.1 ≤ 1099511627776 ∧ Mg.risesB i.2.1 ((lx.drop i.1).map (·.p.doc)) = true ∧ i.2.2 ++ (encN i.2.1 ((lx.drop i.1).map (·.p))).flatMap numE = tot) (fun i => lx.length - i.1) (0, 0, numE lx.length)
  FR ⟨J2, yal _, Int.le_refl 0, (by decide : (0:Int) ≤ 1099511627776), by have := rises_mono hr.2 (show (0 : Int) ≤ 1 by decide); rw [ybe] at this; exact this, het.symm⟩ ?_
 rintro ⟨i, d, pre⟩ gg wr ⟨hK, hi, hd0, hdm, hrs, hpre⟩
 dsimp only at hi hd0 hdm hrs hpre ⊢
 refine GW ?_
 by_cases hlt : i < lx.length
 rotate_left
 ·refine KGO ?_
  rw [yaP OM] at hpre
  exact ⟨by rw [htot, ← hpre]; simp [encN], hK⟩
 obtain ⟨ga, oa, rfl, hga, hata⟩ := hra OM
 have hpi := hpl lx[i] (yak hlt)
 have hri := hr.1 lx[i].p (yax (yak hlt))
 have hpni := hpn lx[i].p (yax (yak hlt))
 rw [yat hlt, yas] at hrs hpre
 rw [Mg.risesB, yaq, decide_eq_true_eq] at hrs
 rw [encN] at hpre
 obtain ⟨⟨h1, h2⟩, hrs⟩ := hrs
 have hn : lx[i].h.n = lx[i].p.places.length := Yl hpi
 have hle := congrArg List.length hpre
 simp only [yao, yaa] at hle
 have e1 : lx[i].p.doc - d = (((lx[i].p.doc - d).toNat : Nat) : Int) := OM
 obtain ⟨pa, pc, hpe, hpr⟩ := hpi
 have hsl : lx[i].h = ⟨pa, lx[i].p.places.length, pc⟩ := by
  have e := hpe
  unfold Sl.v at e
  injection e with e1 e2 e3
  cases hh : lx[i].h with
  | mk x1 x2 x3 => rw [hh] at e1 e2 e3; dsimp only at e1 e2 e3; rw [e1, e2, e3]
 have hs1 : (str pre).size = pre.length := rfl
 obtain ⟨X, hX⟩ : ∃ X, str pre = X := ⟨_, rfl⟩
 rw [hX] at hs1 ⊢
 have hax : At wr ga (oa + i * 2) (prC lx[i]) := by
  have := zhr lenPr (at_mono hata hK) i
  rw [yat hlt] at this
  exact zbt this
 have hk0 := (Yb wr n_).drew
 refine KGO ?_
 refine Yo (fun u => Kp wr u n_) (fun _ => true) (by decide +kernel) hk0 ?_
 refine KGO ?_
 rw [e1]
 refine Ya (Tryz.call72 _ _) (zbR (w := wr.drew) (lx[i].p.doc - d).toNat OM) ?_
 rintro e w3 ⟨rfl, k3⟩
 have J3 := hk0.trans0 k3
 refine RT ?_
 refine ⟨J3, ?_⟩
 have hs2 : (str (numE (lx[i].p.doc - d).toNat)).size = (numE (lx[i].p.doc - d).toNat).length := rfl
 have hs3 : (str (numE lx[i].p.places.length)).size = (numE lx[i].p.places.length).length := rfl
 have hXA : X ++ str (numE (lx[i].p.doc - d).toNat) = str (pre ++ numE (lx[i].p.doc - d).toNat) := by rw [← hX]; exact (zdp _ _).symm
 have hs4 : (str (pre ++ numE (lx[i].p.doc - d).toNat)).size = (pre ++ numE (lx[i].p.doc - d).toNat).length := rfl
 rw [yaa] at hs4
 refine KGO ?_
 refine Ym OM ?_
 rw [hXA]
 have hXB : str (pre ++ numE (lx[i].p.doc - d).toNat) ++ str (numE lx[i].p.places.length) = str (pre ++ numE (lx[i].p.doc - d).toNat ++ numE lx[i].p.places.length) := (zdp _ _).symm
 obtain ⟨Y, hY⟩ : ∃ Y, str (pre ++ numE (lx[i].p.doc - d).toNat) = Y := ⟨_, rfl⟩
 rw [hY] at hs4 hXB ⊢
 refine KGO ?_
 rw [hn]
 refine Ya (Tryz.call72 _ _) (zbR (w := w3) lx[i].p.places.length OM) ?_
 rintro e w4 ⟨rfl, k4⟩
 have J4 := J3.trans0 k4
 refine RT ?_
 refine ⟨J4, ?_⟩
 refine KGO ?_
 refine Ym OM ?_
 rw [hXB]
 refine KGO ?_
 rw [yao, yao, ← yap, ← yap] at hpre
 clear hle hs1 hs2 hs3 hs4 hXA hXB
 generalize pre ++ numE (lx[i].p.doc - d).toNat ++ numE lx[i].p.places.length = pre1 at *
 have J4w := hK.trans0 J4
 clear J3 J4 k3 k4 hax hk0
 generalize hPL : lx[i].p.places = PL at *
 refine Yc (ι := Nat × Int × List UInt8) (fun k => [(0, .slice (some ⟨ga, oa, none⟩) lx.length ca), (4, .string (str k.2.2)), (5, .int .i64 lx[i].p.doc), (6, .int .i64 (i : Nat)), (7, .int .i64 k.2.1), (8, .int .i64 (k.1 : Nat))])
  (fun k wq => Kp w wq n_ ∧ k.1 ≤ PL.length ∧ 0 ≤ k.2.1 ∧ k.2.1 ≤ 1099511627776 ∧ Mg.risesB k.2.1 (PL.drop k.1) = true ∧ k.2.2 ++ (difs k.2.1 (PL.drop k.1) ++ encN lx[i].p.doc ((lx.drop (i + 1)).map (·.p))).flatMap numE = tot) (fun k => PL.length - k.1) (0, 0, pre1)
  FR ⟨J4w, yal _, Int.le_refl 0, (by decide : (0:Int) ≤ 1099511627776), hri.2, hpre⟩ ?_
 clear hpre J4w
 rintro ⟨k, pt, pre2⟩ gg2 wq ⟨hK2, hk, hp0, hp1, hpr2, hpre⟩
 dsimp only at hk hp0 hp1 hpr2 hpre ⊢
 have hax : At wq ga (oa + i * 2) (prC lx[i]) := by
  have := zhr lenPr (at_mono hata hK2) i
  rw [yat hlt] at this
  exact zbt this
 refine GW ?_
 by_cases hlk : k < PL.length
 rotate_left
 ·rw [yaP OM] at hpre
  refine KGO ?_
  exact ⟨(i + 1, lx[i].p.doc, pre2), FR, ⟨hK2, OM, DO, DO, rises_mono hrs DO, by simpa [difs] using hpre⟩, DO⟩
 obtain ⟨gp, op, rfl, hgp, hatp⟩ := hpr OM
 have cp := zaJ (at_mono hatp hK2) hlk
 rw [yat hlk] at hpre hpr2
 rw [Mg.risesB, yaq, decide_eq_true_eq] at hpr2
 rw [difs, yaW, yao, ← yap] at hpre
 obtain ⟨⟨h3, h4⟩, hpr3⟩ := hpr2
 have hle := congrArg List.length hpre
 simp only [yaa] at hle
 have e2 : PL[k] - pt = (((PL[k] - pt).toNat : Nat) : Int) := OM
 have hs1 : (str pre2).size = pre2.length := rfl
 have hs2 : (str (numE (PL[k] - pt).toNat)).size = (numE (PL[k] - pt).toNat).length := rfl
 have hXA : str pre2 ++ str (numE (PL[k] - pt).toNat) = str (pre2 ++ numE (PL[k] - pt).toNat) := (zdp _ _).symm
 obtain ⟨X, hX⟩ : ∃ X, str pre2 = X := ⟨_, rfl⟩
 rw [hX] at hs1 hXA ⊢
 have hk0 := (Yb wq n_).drew
 refine KGO ?_
 rw [hsl]
 dsimp only
 refine KGO ?_
 rw [e2]
 refine Ya (Tryz.call72 _ _) (zbR (w := wq) (PL[k] - pt).toNat OM) ?_
 rintro e w3 ⟨rfl, k3⟩
 have J3 := hK2.trans0 k3
 refine RT ?_
 refine Ym OM ?_
 rw [hXA]
 refine KGO ?_
 rw [hsl]
 dsimp only
 refine KGO ?_
 exact ⟨(k + 1, PL[k], pre2 ++ numE (PL[k] - pt).toNat), FR, ⟨J3, OM, DO, DO, rises_mono hpr3 DO, hpre⟩, DO⟩
end
end Go.Proofs.YtennokckmjcefaaGreatDoor
