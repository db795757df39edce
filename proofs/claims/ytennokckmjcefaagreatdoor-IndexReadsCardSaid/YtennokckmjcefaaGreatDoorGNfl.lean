/- Helper lemmas; no conditions of their own. -/
import Derived.Test.YtennokckmjcefaaGreatDoorGNi4
set_option linter.unusedVariables false
set_option maxHeartbeats 4000000
set_option maxRecDepth 100000
namespace Go.Proofs.YtennokckmjcefaaGreatDoor
open Go.Shelf Go.RowKit Go.Pw Go.Vc Go.Cs Go.Lib Go.Cd Go.Mg
section
variable {w : World} {b : Nat}
theorem zpn (s : St) (n : Nat) (h : VarK w b 145 (rdC s)) (hn : n < 2 ^ 63) (hs : ∀ u, s = some u → u.length ≤ 140737488355328) :
  Calls Tryz.prog 121 #[.pointer (some ⟨b, 0, none⟩), .int .i64 (n : Nat)] w fun e w' => e = .returned (.string (str (takeR n s).1)) ∧ VarK w' b 145 (rdC (takeR n s).2) ∧ Kp w w' (one_ b) := by
 have qw := Yb w n_
 cases s with
 | none =>
  have h0 := h
  unfold rdC at h
  have ha := h.at
  refine zaa (args := [.pointer (some ⟨b, 0, none⟩), .int .i64 (n : Nat)]) Tryz.func121 rfl NL ?_; refine GW ?_
  have hz : (⟨#[]⟩ : ByteArray).size = 0 := rfl
  by_cases hn0 : n = 0
  ·subst hn0
   refine KGO ?_
   refine Ya (Tryz.call119 _ _) (zch none h0) ?_
   rintro e w1 ⟨rfl, h1, k1⟩
   refine RT ?_
   refine KGO ?_
   exact ⟨rfl, h1, k1⟩
  refine KGO ?_
  refine Ya (Tryz.call119 _ _) (zch none h0) ?_
  rintro e w1 ⟨rfl, h1, k1⟩
  refine RT ?_
  refine KGO ?_
  exact ⟨rfl, h1, k1⟩
 | some u =>
  have h0 := h
  have hu := hs u rfl
  unfold rdC at h
  dsimp only at h
  have ha := h.at
  have hz : (str u).size = u.length := rfl
  refine zaa (args := [.pointer (some ⟨b, 0, none⟩), .int .i64 (n : Nat)]) Tryz.func121 rfl NL ?_; refine GW ?_
  by_cases hle : n ≤ u.length
  ·have e : takeR n (some u) = (u.take n, some (u.drop n)) := if_pos hle
   rw [e]
   refine KGO ?_
   rw [zkJ]
   refine KGO ?_
   rw [hz, zbc]
   refine Yd (i := 0) h (by simp) (by rfl) ⟨rfl, by simp, by simp⟩ fun w1 v1 k1 => ?_
   refine KGO ?_
   exact ⟨rfl, v1, k1⟩
  have e : takeR n (some u) = ([], none) := if_neg hle
  rw [e]
  refine KGO ?_
  refine Ya (Tryz.call119 _ _) (zch (some u) h0) ?_
  rintro e w1 ⟨rfl, h1, k1⟩
  refine RT ?_
  refine KGO ?_
  exact ⟨rfl, h1, k1⟩
theorem zeD (s : St) (h : VarK w b 145 (rdC s)) (hs : ∀ u, s = some u → u.length ≤ 140737488355328) :
  Calls Tryz.prog 62 #[.pointer (some ⟨b, 0, none⟩)] w fun e w' => e = .returned (.string (str (textR s).1)) ∧ VarK w' b 145 (rdC (textR s).2) ∧ Kp w w' (one_ b) := by
 refine zaa (args := [.pointer (some ⟨b, 0, none⟩)]) Tryz.func62 rfl NL ?_; refine GW ?_
 refine Ya (Tryz.call59 _ _) (zbo s h hs) ?_
 rintro e w1 ⟨rfl, h1, k1⟩
 refine RT ?_
 have hu : ∀ u, (numR s).2 = some u → u.length ≤ 140737488355328 := fun u e => by
  have h3 := zbs s
  rw [e] at h3
  cases s with
  | none => simp only [stL] at h3; omega
  | some v => have := hs v rfl; simp only [stL] at *; omega
 refine Ya (Tryz.call121 _ _) (zpn (numR s).2 (numR s).1 h1 (zaW s) hu) ?_
 rintro e w2 ⟨rfl, h2, k2⟩
 refine RT ?_
 exact ⟨rfl, h2, k1.trans' k2⟩
theorem zfL (u : List UInt8) (hu : u.length ≤ 1000000000000) : Calls Tryz.prog 73 #[.string (str u)] w fun e w' => e = .returned (.string (str (textE u))) ∧ Kp w w' n_ := by
 have hz : (str u).size = u.length := rfl
 have hl := zap (n := u.length) OM
 have hz2 : (str (numE u.length)).size = (numE u.length).length := rfl
 refine zaa (args := [.string (str u)]) Tryz.func73 rfl NL ?_; refine GW ?_
 rw [hz]
 refine Ya (Tryz.call72 _ _) (zbR (w := w) u.length OM) ?_
 rintro e w1 ⟨rfl, k1⟩
 refine RT ?_
 refine Ym OM ?_
 rw [zcm]
 refine KGO ?_
 exact ⟨rfl, k1⟩
end
def segE (s : Sgm) : List UInt8 := textE (serS s)
def segsR : Nat → St → Option (List Sgm) × St
 | 0, s => (some [], s)
 | n + 1, s => if stL s = 0 then (some [], s) else match readS (textR s).1 with
  | none => (none, (textR s).2)
  | some g => ((segsR n (textR s).2).1.map (g :: ·), (segsR n (textR s).2).2)
def serX (x : Ix) : List UInt8 := numE x.segs.length ++ (x.segs.flatMap segE ++ numsE (toN x.dead))
def parX (b : List UInt8) : Option Ix := match (segsR (numR (some b)).1 (numR (some b)).2).1 with
 | none => none
 | some l => if (numsR (segsR (numR (some b)).1 (numR (some b)).2).2).2 = some [] then some ⟨l, iL (numsR (segsR (numR (some b)).1 (numR (some b)).2).2).1⟩ else none
def zaS (x : Ix) : Bool := decide ((x.segs.flatMap fun s => s.docs).Nodup) && x.segs.all (fun s => !s.docs.isEmpty) && x.dead.all (fun d => decide (d ∈ x.segs.flatMap fun s => s.docs)) && decide (x.dead.Pairwise fun a b => a < b)
def zbA (b : List UInt8) : Option Ix := match parX b with
 | none => none
 | some x => if zaS x = true ∧ serX x = b then some x else none
theorem zgO {x : Ix} (hr : ∀ s ∈ x.segs, rightS s = true) : zaS x = true ↔ IxOk x := by
 unfold zaS
 simp only [yaq, decide_eq_true_eq, yaF, ybX, List.isEmpty_eq_false_iff]
 constructor
 ·rintro ⟨⟨⟨h1, h2⟩, h3⟩, h4⟩
  refine ⟨hr, h2, ?_, h4.imp fun h => decide_eq_true h, fun d hd => zfa.1 (h3 d hd)⟩
  have := (List.pairwise_flatMap.1 h1).2
  exact this.imp fun h d hd hd2 => h d hd d hd2 rfl
 intro h
 exact ⟨⟨⟨zhb hr h.dj, h.ne⟩, fun d hd => zfa.2 (h.di d hd)⟩, by have := h.da; unfold AscB at this; exact this.imp fun h => of_decide_eq_true h⟩
theorem zia (s : Sgm) : 0 < (segE s).length := (zcN _).1
theorem ziJ : ∀ (l : List Sgm) (r : List UInt8), (∀ s ∈ l, rightS s = true ∧ (serS s).length < 2 ^ 63) → segsR l.length (some (l.flatMap segE ++ r)) = (some l, some r)
 | [], r, _ => rfl
 | s :: l, r, h => by
  obtain ⟨h1, h2⟩ := h s yae
  have hp := zia s
  rw [yao, yap, yab]
  unfold segsR
  rw [if_neg (by show (segE s ++ (l.flatMap segE ++ r)).length ≠ 0; rw [yaa]; omega)]
  unfold segE at hp ⊢
  rw [zgi h2]
  dsimp only
  rw [(zfo h2).2 ⟨h1, rfl⟩]
  have := ziJ l r fun x hx => h x (yai _ hx)
  unfold segE at this
  dsimp only
  rw [this]; rfl
theorem zjw {b : List UInt8} {s : Sgm} (h : readS b = some s) : rightS s = true := by
 unfold readS at h
 split at h
 ·rename_i hc
  injection h with h
  rw [← h]; exact hc.2.1
 cases h
theorem zfB : ∀ (n : Nat) (s : St) (l : List Sgm), (segsR n s).1 = some l → ∀ g ∈ l, rightS g = true
 | 0, s, l, h, g, hg => by
  injection h with h
  subst h; cases hg
 | n + 1, s, l, h, g, hg => by
  unfold segsR at h
  split at h
  ·injection h with h
   subst h; cases hg
  cases hq : readS (textR s).1 with
  | none => rw [hq] at h; cases h
  | some a =>
   rw [hq] at h
   dsimp only at h
   cases hr : (segsR n (textR s).2).1 with
   | none => rw [hr] at h; cases h
   | some m =>
    rw [hr] at h
    injection h with h
    subst h
    rcases yah.1 hg with rfl | hg
    ·exact zjw hq
    exact zfB n _ m hr g hg
theorem zmN {b : List UInt8} {x : Ix} (h : parX b = some x) : ∀ s ∈ x.segs, rightS s = true := by
 unfold parX at h
 split at h
 ·cases h
 rename_i l hl
 split at h
 ·injection h with h
  subst h
  exact zfB _ _ l hl
 cases h
theorem zeX {x : Ix} (hx : IxOk x) : ∀ d ∈ x.dead, 1 ≤ d ∧ d ≤ 1099511627776 := fun d hd => by
 obtain ⟨s, hs, h⟩ := hx.di d hd
 exact (zah.1 (hx.rt s hs)).1.2 d h
theorem zrh {x : Ix} (hx : IxOk x) (hb : (serX x).length < 2 ^ 63) : parX (serX x) = some x := by
 have hl : (numE x.segs.length).length + ((x.segs.flatMap segE).length + (numsE (toN x.dead)).length) < 2 ^ 63 := by
  unfold serX at hb
  rw [yaa, yaa] at hb; exact hb
 have h1 := zdT segE zia x.segs
 have h2 : (toN x.dead).length ≤ (numsE (toN x.dead)).length := by
  have := zcO (toN x.dead)
  unfold numsE
  rw [yaa]; omega
 have e1 : numR (some (serX x)) = (x.segs.length, some (x.segs.flatMap segE ++ numsE (toN x.dead))) := numR_enc OM _
 have e2 := ziJ x.segs (numsE (toN x.dead)) fun s hs => ⟨hx.rt s hs, by
  have h3 := zbU segE x.segs s hs
  have h4 := (zcN (serS s)).2
  unfold segE at h3
  unfold segE at hl
  omega⟩
 have hd := zeX hx
 have e3 := zkY (toN x.dead) [] (fun n hn => by
  unfold toN at hn
  obtain ⟨d, hdm, rfl⟩ := yay.1 hn
  have := hd d hdm
  omega) OM
 rw [yaA] at e3
 unfold parX
 rw [e1]
 dsimp only
 rw [e2]
 dsimp only
 rw [e3]
 dsimp only
 rw [if_pos rfl, iL_toN fun n hn => by have := hd n hn; omega]
theorem zgZ {b : List UInt8} (hb : b.length < 2 ^ 63) {x : Ix} : zbA b = some x ↔ IxOk x ∧ serX x = b := by
 unfold zbA
 constructor
 ·intro h
  cases hp : parX b with
  | none => rw [hp] at h; cases h
  | some y =>
   rw [hp] at h
   dsimp only at h
   split at h
   ·rename_i hc
    injection h with h
    subst h
    exact ⟨(zgO (zmN hp)).1 hc.1, hc.2⟩
   cases h
 rintro ⟨h1, rfl⟩
 rw [zrh h1 hb]
 dsimp only
 rw [if_pos ⟨(zgO h1.rt).2 h1, rfl⟩]
theorem zqV {x : Ix} (hx : IxOk x) (hb : (serX x).length < 2 ^ 63) : zbA (serX x) = some x := (zgZ hb).2 ⟨hx, rfl⟩
def zT (t : Trm) : Nat := cntP (plT t) + 1
def zS (s : Sgm) : Nat := (s.terms.map zT).sum
def zX (l : List Sgm) : Nat := (l.map zS).sum
theorem zdb (s : Sgm) (l : List Sgm) : zX (s :: l) = zS s + zX l := by unfold zX; rw [List.map_cons, List.sum_cons]
theorem zkl (a b : List Sgm) : zX (a ++ b) = zX a + zX b := by unfold zX; rw [List.map_append, List.sum_append]
theorem zoG : ∀ l : List Sgm, zX (fullL l) ≤ zX l
 | [] => yag _
 | s :: l => by
  have ih := zoG l
  unfold fullL at ih ⊢
  rw [ybq]
  split
  ·rw [zdb, zdb]; omega
  rw [zdb]; omega
theorem zoA (s : Sgm) : zS (validS s) ≤ zS s := by
 unfold validS
 split
 ·exact yag _
 exact yal _
theorem ztZ {dl : List Int} {x : Trm × List Pst} {t : Trm} (h : termOf dl x = some t) : zT t ≤ cntP x.2 + 1 := by
 unfold termOf at h
 split at h
 ·cases h
 injection h with h
 subst h
 have h1 := zjZ x.1.field x.1.word (liveP dl x.2)
 have h2 := zdq (fun p => !decide (p.doc ∈ dl)) x.2
 unfold zT
 unfold liveP at h1 ⊢
 omega
theorem z_fm (dl : List Int) : ∀ l : List (Trm × List Pst), ((l.filterMap (termOf dl)).map zT).sum ≤ (l.map fun x => cntP x.2 + 1).sum
 | [] => yag _
 | x :: l => by
  have ih := z_fm dl l
  rw [List.filterMap_cons, yas, yaY]
  cases h : termOf dl x with
  | none => dsimp only; omega
  | some t =>
   have := ztZ h
   dsimp only
   rw [yas, yaY]; omega
theorem zsV : ∀ (n : Nat) (a b : List Trm), a.length + b.length ≤ n → ((zaE a b).map fun x => cntP x.2 + 1).sum ≤ (a.map zT).sum + (b.map zT).sum := by
 intro n
 induction n with
 | zero =>
  intro a b h
  obtain rfl : a = [] := yan OM
  obtain rfl : b = [] := yan OM
  rw [mergeT_nil]; exact yag _
 | succ n ih =>
  intro a b h
  cases a with
  | nil =>
   cases b with
   | nil => rw [mergeT_nil]; exact yag _
   | cons y b =>
    have := ih [] b (by simp only [yaE, yab] at h ⊢; omega)
    rw [zcM, zeG]
    simp only [yas, yaY, ybg, List.sum_nil] at this ⊢
    unfold zT at this ⊢
    omega
  | cons x a =>
   cases b with
   | nil =>
    have := ih a [] (by simp only [yaE, yab] at h ⊢; omega)
    rw [zcl, zeI]
    simp only [yas, yaY, ybg, List.sum_nil] at this ⊢
    unfold zT at this ⊢
    omega
   | cons y b =>
    simp only [yab] at h
    have h1 := ih a (y :: b) (by simp only [yab]; omega)
    have h2 := ih a b OM
    have h3 := ih (x :: a) b (by simp only [yab]; omega)
    have h4 := zeQ _ (plT x) (plT y) (yag _)
    rw [zci, zeI, zeG]
    simp only [yas, yaY] at h1 h2 h3 ⊢
    unfold zT at h1 h2 h3 ⊢
    split
    ·rw [List.map_cons, List.sum_cons]; dsimp only; omega
    split
    ·rw [List.map_cons, List.sum_cons]; dsimp only; omega
    rw [List.map_cons, List.sum_cons]; dsimp only; omega
theorem z_two (a b : Sgm) (dl : List Int) : zS (twoS a b dl) ≤ zS a + zS b := by
 have h1 := z_fm dl (zaE (validS a).terms (validS b).terms)
 have h2 := zsV _ (validS a).terms (validS b).terms (yag _)
 have h3 := zoA a
 have h4 := zoA b
 unfold twoS
 unfold zS at h3 h4 ⊢
 dsimp only
 omega
theorem z_nil : zS ⟨[], []⟩ = 0 := rfl
theorem zrE (x : Ix) (i n : Nat) (s : Sgm) (h : zS s ≤ zX ((x.segs.drop i).take n)) : zX (replX x i n s).segs ≤ zX x.segs := by
 have e : x.segs = x.segs.take i ++ ((x.segs.drop i).take n ++ x.segs.drop (i + n)) := by
  rw [show x.segs.drop (i + n) = (x.segs.drop i).drop n from by rw [yaM], yaB, yaB]
 have h1 := zoG (x.segs.take i ++ s :: x.segs.drop (i + n))
 have h2 : zX x.segs = zX (x.segs.take i) + (zX ((x.segs.drop i).take n) + zX (x.segs.drop (i + n))) := by rw [← zkl, ← zkl, ← e]
 rw [zkl, zdb] at h1
 show zX (fullL (x.segs.take i ++ s :: x.segs.drop (i + n))) ≤ _
 omega
theorem z_one (x : Ix) {i : Nat} (hi : i < x.segs.length) (dl : List Int) : zX (replX x i 1 (twoS (x.segs.getD i ⟨[], []⟩) ⟨[], []⟩ dl)).segs ≤ zX x.segs := by
 refine zrE x i 1 _ ?_
 have h := z_two (x.segs.getD i ⟨[], []⟩) ⟨[], []⟩ dl
 rw [seg_at hi] at h ⊢
 have e : (x.segs.drop i).take 1 = [x.segs[i]] := by rw [yat hi]; rfl
 rw [e, zdb]
 rw [z_nil] at h
 omega
theorem zui (x : Ix) {i : Nat} (hi : i + 1 < x.segs.length) (dl : List Int) : zX (replX x i 2 (twoS (x.segs.getD i ⟨[], []⟩) (x.segs.getD (i + 1) ⟨[], []⟩) dl)).segs ≤ zX x.segs := by
 refine zrE x i 2 _ ?_
 have h := z_two (x.segs.getD i ⟨[], []⟩) (x.segs.getD (i + 1) ⟨[], []⟩) dl
 rw [seg_at (by omega : i < x.segs.length), seg_at hi] at h ⊢
 have e : (x.segs.drop i).take 2 = [x.segs[i], x.segs[i + 1]] := by rw [yat (by omega : i < x.segs.length), yat hi]; rfl
 rw [e, zdb, zdb]
 omega
theorem zux (x : Ix) (doc : Int) : zX (readX x doc).segs ≤ zX x.segs := by
 unfold readX
 split
 ·rename_i i h
  obtain ⟨hi, _⟩ := zdi h
  exact z_one x hi _
 exact yag _
theorem zup (x : Ix) : zX (stepX x).2.segs ≤ zX x.segs := by
 unfold stepX
 split
 ·rename_i i h
  have := zdG h
  rw [yaf] at this
  exact zui x this _
 split
 ·rename_i i h
  exact z_one x (List.findIdx?_eq_some_iff_getElem.1 h).1 _
 exact yag _
theorem ztG (x : Ix) (doc : Int) : zX (dropX x doc).2.segs = zX x.segs := by
 unfold dropX
 split <;> rfl
theorem zjb {α : Type} [BEq α] [LawfulBEq α] : ∀ (M K : List α), K.Nodup → (K.map fun k => M.count k).sum ≤ M.length
 | [], K, _ => by
  have : ∀ K : List α, (K.map fun k => ([] : List α).count k).sum = 0 := fun K => by
   induction K with
   | nil => rfl
   | cons k K ih => rw [yas, yaY, ih, List.count_nil]
  rw [this]; exact yal _
 | m :: M, K, h => by
  have ih := zjb M K h
  have key : ∀ K : List α, K.Nodup → (K.map fun k => (m :: M).count k).sum ≤ (K.map fun k => M.count k).sum + if m ∈ K then 1 else 0 := by
   intro K
   induction K with
   | nil => intro _; exact yal _
   | cons k K ih =>
    intro h
    obtain ⟨h1, h2⟩ := ybV.1 h
    have := ih h2
    rw [yas, yaY, yas, yaY, List.count_cons]
    by_cases hm : m = k
    ·subst hm
     rw [if_neg h1] at this
     rw [if_pos yae, if_pos (by simp)]
     omega
    have e : (m ∈ k :: K) = (m ∈ K) := by simp [hm]
    simp only [e]
    rw [if_neg (by simpa using hm)]
    omega
  have := key K h
  rw [yab]
  split at this <;> omega
theorem zgz (w : List UInt8) : ∀ (i : Nat) (l : List (List UInt8)), (posF w i l).length = l.count w
 | i, [] => rfl
 | i, x :: r => by
  rw [posF, List.count_cons]
  have ih := zgz w (i + 1) r
  by_cases h : x = w
  ·rw [if_pos h, if_pos (by simpa using h), yab, ih]
  rw [if_neg h, if_neg (by simpa using h), ih]; rfl
abbrev keysE (es : List Ent) : List Ky := es.flatMap fun e => (wordsOf e.text).map fun w => (e.field, w)
theorem count_key (f : Int) (k : Ky) : ∀ l : List (List UInt8), (l.map fun w => ((f, w) : Ky)).count k = if f = k.1 then l.count k.2 else 0
 | [] => by split <;> rfl
 | x :: l => by
  rw [yas, List.count_cons, count_key f k l, List.count_cons]
  obtain ⟨a, b⟩ := k
  by_cases h : f = a
  ·subst h
   by_cases h2 : x = b
   ·subst h2; simp
   simp [h2]
  simp [h]
theorem zeU (k : Ky) (d : Int) : ∀ es : List Ent, (placesE es k d).length ≤ (keysE es).count k
 | [] => yag _
 | e :: es => by
  have ih := zeU k d es
  rw [show placesE (e :: es) k d = partE (wordsOf e.text) e.doc e.field k d ++ placesE es k d from rfl, yaa, show keysE (e :: es) = ((wordsOf e.text).map fun w => ((e.field, w) : Ky)) ++ keysE es from rfl, List.count_append, count_key]
  unfold partE
  split
  ·rename_i h
   rw [if_pos h.2.symm, zgz]; omega
  simp only [yaE]; omega
theorem zsm (d : Int) (l : List Int) : cntP [⟨d, l⟩] = l.length + 2 := by rw [Mg.cnt_cons]; rfl
theorem zsp {doc : Int} {es : List Ent} (h : ∀ e ∈ es, e.doc = doc) : zS (zcq es) ≤ 4 * (keysE es).length := by
 have hd : ∀ d ∈ sortI (es.map (·.doc)), d = doc := fun d hd => by
  obtain ⟨e, he, rfl⟩ := yay.1 ((zbd stoI _ d).1 hd)
  exact h e he
 have hasc : AscB ltI (sortI (es.map (·.doc))) := asc_sortD stoI _
 have hle : ∀ (l : List Int), AscB ltI l → (∀ d ∈ l, d = doc) → l.length ≤ 1 := fun l ha hl => by
  match l, ha, hl with
  | [], _, _ => exact yal _
  | [a], _, _ => exact yag _
  | a :: b :: l, ha, hl =>
   have h1 := (yam.1 ha).1 b yae
   have h2 := hl a yae
   have h3 := hl b (yai _ yae)
   rw [h2, h3] at h1
   simp [ltI] at h1
 have hK : (sortD ltK (keysE es)).Nodup := (asc_sortD stoK (keysE es)).imp fun h => zdU h
 have hKl : (sortD ltK (keysE es)).length ≤ (keysE es).length := by
  refine zbr _ _ hK fun x hx => (zbd stoK _ x).1 hx
 have hterm : ∀ k, zT (tmOf (placesE es) (k, (sortI (es.map (·.doc))).filter fun d => !(placesE es k d).isEmpty)) ≤ 3 + (keysE es).count k := fun k => by
  unfold tmOf zT
  have h1 := zjZ k.1 k.2 (postG (placesE es) (k, (sortI (es.map (·.doc))).filter fun d => !(placesE es k d).isEmpty))
  have h2 : cntP (postG (placesE es) (k, (sortI (es.map (·.doc))).filter fun d => !(placesE es k d).isEmpty)) ≤ 2 + (keysE es).count k := by
   unfold postG
   dsimp only
   have hs : (sortL ((sortI (es.map (·.doc))).filter fun d => !(placesE es k d).isEmpty)).length ≤ 1 := by
    rw [yba]
    refine yaw (yaK _ _) (hle _ hasc hd)
   generalize sortL ((sortI (es.map (·.doc))).filter fun d => !(placesE es k d).isEmpty) = L at *
   match L, hs with
   | [], _ => exact yal _
   | [d], _ =>
    show cntP [⟨d, placesE es k d⟩] ≤ _
    rw [zsm]
    have := zeU k d es
    omega
  dsimp only at h1 ⊢
  omega
 have hsum : ∀ K : List Ky, ((K.map fun k => tmOf (placesE es) (k, (sortI (es.map (·.doc))).filter fun d => !(placesE es k d).isEmpty)).map zT).sum ≤ 3 * K.length + (K.map fun k => (keysE es).count k).sum := by
  intro K
  induction K with
  | nil => exact yal _
  | cons k K ih =>
   have := hterm k
   simp only [yas, yaY, yab] at ih ⊢
   omega
 have h1 := hsum (sortD ltK (keysE es))
 have h2 := zjb (keysE es) _ hK
 have e : (klE es).map (tmOf (placesE es)) = (sortD ltK (keysE es)).map fun k => tmOf (placesE es) (k, (sortI (es.map (·.doc))).filter fun d => !(placesE es k d).isEmpty) := by
  unfold klE
  rw [ybe]; rfl
 show (((klE es).map (tmOf (placesE es))).map zT).sum ≤ _
 rw [e]
 refine yaw h1 ?_
 omega
theorem zpx (doc : Int) (tx : List (List UInt8)) : (keysE (entsX doc tx)).length ≤ 2 * ((tx.getD 1 []).length + (tx.getD 2 []).length + (tx.getD 3 []).length + (tx.getD 4 []).length + (tx.getD 5 []).length) + 5 := by
 have h1 := zbn (tx.getD 1 [])
 have h2 := zbn (tx.getD 2 [])
 have h3 := zbn (tx.getD 3 [])
 have h4 := zbn (tx.getD 4 [])
 have h5 := zbn (tx.getD 5 [])
 unfold keysE entsX
 simp only [yao, ybQ, yaa, yaf, yaE]
 omega
theorem z_add (x : Ix) (doc : Int) (tx : List (List UInt8)) : zX (addX x doc tx).2.segs ≤ zX x.segs + (8 * ((tx.getD 1 []).length + (tx.getD 2 []).length + (tx.getD 3 []).length + (tx.getD 4 []).length + (tx.getD 5 []).length) + 20) := by
 unfold addX
 split
 ·exact ycd _ _
 split
 ·exact ycd _ _
 have h1 := zux x doc
 have h2 := zsp (doc := doc) (es := entsX doc tx) (fun e he => zcW he)
 have h3 := zpx doc tx
 dsimp only
 rw [zkl, zdb]
 have h4 : zX [] = 0 := rfl
 omega
theorem ztO {docs : List Int} {t : Trm} (h : zax docs t = true) : t.word.length ≤ 40 := by
 unfold zax at h
 rw [yaq, yaq] at h
 have hw := of_decide_eq_true h.1.2
 have hm : t.word ∈ wordsOf t.word := by rw [hw]; exact yae
 obtain ⟨x, hx, e⟩ := yay.1 hm
 have := zkn (zfx _ x hx)
 rw [e] at this
 exact this
theorem zcH {u : List UInt8} (h : u.length < 2 ^ 63) : (textE u).length ≤ 9 + u.length := by
 have := zap h
 unfold textE
 rw [yaa]; omega
theorem zmY {docs : List Int} {t : Trm} (h : zax docs t = true) (hc : cntP (plT t) ≤ 1000000000) : (termE t).length ≤ 85 * zT t := by
 have hw := ztO h
 have hl : t.list.length ≤ 9 + 9 * cntP (plT t) := by
  rw [(zdf h).2]
  exact zcT _
 unfold zax at h
 rw [yaq, yaq] at h
 have hf := of_decide_eq_true h.1.1
 have h1 := zap (n := t.field.toNat) OM
 have h2 := zcH (u := t.word) OM
 have h3 := zcH (u := t.list) OM
 unfold termE zT
 rw [yaa, yaa]
 omega
theorem zT_le {s : Sgm} : ∀ t ∈ s.terms, zT t ≤ zS s := by
 have : ∀ l : List Trm, ∀ t ∈ l, zT t ≤ (l.map zT).sum := by
  intro l
  induction l with
  | nil => intro t h; cases h
  | cons a l ih =>
   intro t h
   rw [yas, yaY]
   rcases yah.1 h with rfl | h
   ·omega
   have := ih t h; omega
 exact this s.terms
theorem zqR {s : Sgm} (h : rightS s = true) (hz : zS s ≤ 1000000000) (hd : s.docs.length ≤ 1000000000) : (serS s).length ≤ 18 + 9 * s.docs.length + 85 * zS s := by
 obtain ⟨⟨_, r0⟩, r2, _⟩ := zah.1 h
 unfold serS
 rw [if_pos h]
 have h1 : (numsE (toN s.docs)).length ≤ 9 + 9 * s.docs.length := by
  unfold numsE
  have hl : (toN s.docs).length = s.docs.length := by unfold toN; exact List.length_map _
  have h2 := zap (n := (toN s.docs).length) OM
  have h3 := zbC (toN s.docs) fun n hn => by
   obtain ⟨d, hd, rfl⟩ := yay.1 hn
   have := r0 d hd
   omega
  rw [yaa]; omega
 have ht : s.terms.length ≤ zS s := by
  unfold zS
  generalize s.terms = l
  induction l with
  | nil => exact yal _
  | cons a l ih => rw [List.map_cons, List.sum_cons, List.length_cons]; unfold zT at *; omega
 have h2 := zap (n := s.terms.length) OM
 have h3 : ∀ l : List Trm, (∀ t ∈ l, t ∈ s.terms) → (l.flatMap termE).length ≤ 85 * (l.map zT).sum := by
  intro l
  induction l with
  | nil => intro _; exact yal _
  | cons a l ih =>
   intro hm
   have i1 := ih fun t ht => hm t (yai _ ht)
   have ha := hm a yae
   have i2 := zT_le a ha
   have i3 := zmY (r2 a ha) (by unfold zT at i2; omega)
   rw [yao, yaa, yas, yaY]; omega
 have h4 := h3 s.terms fun t h => h
 rw [yaa, yaa]
 unfold zS
 omega
theorem zqo {x : Ix} (hx : IxOk x) (hz : zX x.segs ≤ 1000000000) (hn : docN x.segs ≤ 1000000) (hd : x.dead.length ≤ 1000000) : (serX x).length ≤ 18 + 36 * docN x.segs + 9 * x.dead.length + 85 * zX x.segs := by
 have hsd := ziQ hx
 have h1 := zap (n := x.segs.length) OM
 have h2 : (numsE (toN x.dead)).length ≤ 9 + 9 * x.dead.length := by
  unfold numsE
  have hl : (toN x.dead).length = x.dead.length := by unfold toN; exact List.length_map _
  have h2 := zap (n := (toN x.dead).length) OM
  have h3 := zbC (toN x.dead) fun n hn => by
   obtain ⟨d, hd, rfl⟩ := yay.1 hn
   have := zeX hx d hd
   omega
  rw [yaa]; omega
 have h3 : ∀ l : List Sgm, (∀ s ∈ l, rightS s = true) → zX l ≤ 1000000000 → docN l ≤ 1000000 → (l.flatMap segE).length ≤ 27 * l.length + 9 * docN l + 85 * zX l := by
  intro l
  induction l with
  | nil => intro _ _ _; exact yal _
  | cons a l ih =>
   intro hm hz hd
   rw [zdb] at hz ⊢
   rw [zeg] at hd ⊢
   have i1 := ih (fun s hs => hm s (yai _ hs)) OM OM
   have i2 := zqR (hm a yae) OM OM
   have i3 : (segE a).length ≤ 9 + (serS a).length := zcH OM
   rw [yao, yaa, yab]
   omega
 have h4 := h3 x.segs hx.rt hz hn
 unfold serX
 rw [yaa, yaa]
 omega
theorem zcb {α : Type} (f : α → List UInt8) (l : List α) (i : Nat) : ((l.take i).flatMap f).length ≤ (l.flatMap f).length := by
 conv => rhs; rw [← yaB i l, yaC, yaa]
 omega
section
variable {w : World}
theorem zlt (h : Sv) (s : Sgm) (hr : RdS w h s) (hs : SmS s) (hE : CEnv w) (hd : s.docs.length ≤ 100000000) (hl : (serS s).length ≤ 1000000000000) : Calls Tryz.prog 69 #[.agg (sgC h).toArray] w fun e w' => e = .returned (.string (str (serS s))) ∧ Kp w w' n_ := by
 obtain ⟨⟨at_, ct, et, hrt⟩, ⟨ad, cd, ed, hrd⟩, _, _⟩ := id hr
 obtain ⟨⟨ta, tn, tc⟩, ⟨da, dn, dc⟩⟩ := h
 injection et with q1 q2 q3
 injection ed with r1 r2 r3
 dsimp only at q1 q2 q3 r1 r2 r3
 subst q1 q2 q3 r1 r2 r3
 refine zaa (args := [.agg (sgC ⟨⟨ta, s.terms.length, tc⟩, ⟨da, s.docs.length, dc⟩⟩).toArray]) Tryz.func69 rfl NL ?_; refine GW ?_
 obtain ⟨a_b1, v_b1, k_w1, z_w1, r_w1⟩ := new5 w 65 (sgC ⟨⟨ta, s.terms.length, tc⟩, ⟨da, s.docs.length, dc⟩⟩)
 generalize w.alloc (.cells (List.toArray (sgC ⟨⟨ta, s.terms.length, tc⟩, ⟨da, s.docs.length, dc⟩⟩)) 65) = w1 at *
 generalize hs_b1 : w.heap.size = b1 at *
 refine KGO ?_
 refine Ya (Tryz.call116 _ _) (zfh (w := w1) ⟨⟨ta, s.terms.length, tc⟩, ⟨da, s.docs.length, dc⟩⟩ s (hr.keep k_w1) hs (hE.keep k_w1)) ?_
 rintro e w2 ⟨rfl, k2⟩
 have K2 := k_w1.trans0 k2
 have v2 := v_b1.keep0 k2
 unfold sgC at v2
 dsimp only at v2
 have a1 := v2.at
 have z2 := K2.size
 clear a_b1 v_b1
 refine RT ?_
 unfold serS at hl ⊢
 cases hq : rightS s with
 | false =>
  refine KGO ?_
  exact ⟨rfl, K2⟩
 | true =>
 rw [hq, if_pos rfl] at hl
 rw [if_pos rfl]
 obtain ⟨⟨_, r0⟩, r2, _⟩ := zah.1 hq
 have hdn := docs_nat hq
 have hNl : (toN s.docs).length = s.docs.length := by unfold toN; exact List.length_map _
 have hNb : ∀ n ∈ toN s.docs, n < 2 ^ 63 := fun n hn => by
  obtain ⟨d, hd, rfl⟩ := yay.1 hn
  have := r0 d hd
  omega
 refine KGO ?_
 have hb0 := zex w2 w2.heap.size (yag _)
 have K0 : Kp w2 (w2.alloc (.cells #[.pointer none, .slice none 0 0] 93)) n_ := (Yb _ _).alloc _
 generalize w2.alloc (.cells #[.pointer none, .slice none 0 0] 93) = w3 at *
 obtain ⟨b2, hb2⟩ : ∃ b2, w2.heap.size = b2 := ⟨_, rfl⟩
 rw [hb2] at hb0 ⊢
 have a13 := at_mono a1 K0
 have K3 := K2.trans0 K0
 refine Yh (fun u => Kp w3 u n_) (fun _ => true) (by simp) (by decide +kernel) (by decide +kernel) (Yb _ _).drew ?_
 refine KGO ?_
 have kd := (Yb w3 n_).drew
 have hrow : RowI w3.drew (.slice da s.docs.length dc) (iL (toN s.docs)) := by rw [hdn]; exact hr.d.keep (K3.trans0 kd)
 refine Ya (Tryz.call70 _ _) (zoU (w := w3.drew) (toN s.docs) hrow hNb OM) ?_
 rintro e w4 ⟨rfl, k4⟩
 have k34 := kd.trans0 k4
 refine RT ?_
 refine ⟨k34, ?_⟩
 refine KGO ?_
 refine Ya (Tryz.call67 _ _) (zfU (w := w4) s.terms.length (by have := hs.t; omega)) ?_
 rintro e w5 ⟨rfl, k5⟩
 have k35 := k34.trans0 k5
 refine RT ?_
 refine ⟨k35, ?_⟩
 have KK : Kp w2 w5 n_ := K0.trans0 k35
 have hb5 := zbb hb0 k35
 have hn1 := zap (n := s.terms.length) (by have := hs.t; omega)
 have hn2 : (numsE (toN s.docs)).length ≤ 9 + 9 * s.docs.length := by
  unfold numsE
  have h2 := zap (n := (toN s.docs).length) OM
  have h3 := zbC (toN s.docs) hNb
  rw [yaa]; omega
 rw [← yap] at hl ⊢
 rw [yaa, yaa] at hl
 refine KGO ?_
 refine Ym (by show (numsE (toN s.docs)).length + (numE s.terms.length).length ≤ _; omega) ?_
 rw [zcm]
 have hpl : (numsE (toN s.docs) ++ numE s.terms.length).length ≤ 10000000000 := by rw [yaa]; omega
 generalize numsE (toN s.docs) ++ numE s.terms.length = PRE at *
 refine KGO ?_
 refine Ya (Tryz.call66 _ _) (zaP (str PRE) w5 hb5 (by rw [show (str PRE).size = PRE.length from rfl]; simp; omega) (by have := KK.size; omega)) ?_
 rintro e w6 ⟨rfl, hb6, hbe, _⟩
 have K6 : Kp w2 w6 n_ := KK.below' hbe OM
 rw [yaT, show L (str PRE) = PRE from rfl] at hb6
 have a16 := at_mono a1 K6
 have q6 := Yb w6 n_
 clear hb0 hb5 hbe a13 K0 k34 k35 k4 k5 K3 KK kd hrow
 refine RT ?_
 refine KGO ?_
 have hstl := hs.t
 have hall : (s.terms.flatMap termE).length ≤ 1000000000000 := OM
 refine Yc (ι := Nat) (fun i => [(3, .pointer (some ⟨b2, 0, none⟩)), (19, .slice ta s.terms.length tc), (20, .int .i64 (s.terms.length : Nat)), (21, .int .i64 (i : Nat))])
  (fun i wr => Kp w2 wr n_ ∧ i ≤ s.terms.length ∧ Bld wr b2 b2 (PRE ++ (s.terms.take i).flatMap termE)) (fun i => s.terms.length - i) 0 FR ⟨K6, yal _, by simpa using hb6⟩ ?_
 clear hb6 K6 a16 q6
 rintro i gg wr ⟨hK, hi, hb⟩
 have hKw := K2.trans0 hK
 have zr := hK.size
 refine GW ?_
 by_cases hlt : i < s.terms.length
 ·obtain ⟨gt, ot, rfl, hgt, hat⟩ := hrt OM
  have hst : (s.terms.take (i + 1)).flatMap termE = (s.terms.take i).flatMap termE ++ termE s.terms[i] := by
   rw [yad hlt, yaC]; simp
  have hft := zcb termE s.terms (i + 1)
  rw [hst, yaa] at hft
  have hok := r2 s.terms[i] (yak hlt)
  have hsm := hs.x s.terms[i] (yak hlt)
  refine KGO ?_
  refine Yg (vs := tmC s.terms[i]) (by rfl) rfl (zak (by rfl)) ?_
  obtain ⟨a_b5, k_w7, z_w7⟩ := new3 wr 141 (tmC s.terms[i])
  generalize wr.alloc (.cells (List.toArray (tmC s.terms[i])) 141) = w7 at *
  generalize hs_b5 : wr.heap.size = b5 at *
  have hb7 := zbb hb k_w7
  have K7 := hK.trans0 k_w7
  clear hat hb
  generalize (s.terms.take i).flatMap termE = PT at *
  generalize s.terms[i] = t at *
  obtain ⟨f, wd, ls⟩ := t
  obtain ⟨n, rfl⟩ : ∃ n : Nat, f = n := by
   unfold zax at hok
   rw [yaq, yaq] at hok
   have := of_decide_eq_true hok.1.1
   exact ⟨f.toNat, by dsimp only at this; omega⟩
  have hn5 : n ≤ 5 := by
   unfold zax at hok
   rw [yaq, yaq] at hok
   have := of_decide_eq_true hok.1.1
   dsimp only at this; omega
  have hwl := hsm.w
  have hll := hsm.l
  dsimp only at hwl hll
  have hte : termE ⟨(n : Int), wd, ls⟩ = numE n ++ (textE wd ++ textE ls) := rfl
  have a5 : At w7 b5 0 [.int .i64 (n : Nat), .string (str wd), .string (str ls)] := a_b5
  rw [hte, yaa, yaa] at hft
  clear a_b5 hok hsm
  refine KGO ?_
  refine Yh (fun u => Kp w7 u n_) (fun _ => true) (by simp) (by decide +kernel) (by decide +kernel) (Yb _ _).drew ?_
  refine KGO ?_
  have kd := (Yb w7 n_).drew
  refine Ya (Tryz.call67 _ _) (zfU (w := w7.drew) n OM) ?_
  rintro e w8 ⟨rfl, k8⟩
  have k78 := kd.trans0 k8
  refine RT ?_
  refine ⟨k78, ?_⟩
  refine KGO ?_
  refine Ya (Tryz.call68 _ _) (zhu (w := w8) wd OM) ?_
  rintro e w9 ⟨rfl, k9⟩
  have k79 := k78.trans0 k9
  refine RT ?_
  refine ⟨k79, ?_⟩
  refine KGO ?_
  refine Ym (by show (numE n).length + (textE wd).length ≤ _; omega) ?_
  rw [zcm]
  refine KGO ?_
  refine Ya (Tryz.call68 _ _) (zhu (w := w9) ls OM) ?_
  rintro e w10 ⟨rfl, k10⟩
  have k710 := k79.trans0 k10
  have hb10 := zbb hb7 k710
  have K10 := K7.trans0 k710
  refine RT ?_
  refine ⟨k710, ?_⟩
  refine KGO ?_
  refine Ym (by show (numE n ++ textE wd).length + (textE ls).length ≤ _; rw [yaa]; omega) ?_
  rw [zcm]
  have hte2 : termE ⟨(n : Int), wd, ls⟩ = numE n ++ textE wd ++ textE ls := by rw [hte, yap]
  rw [hte2] at hst
  have hXl : (numE n ++ textE wd ++ textE ls).length + PT.length ≤ 1000000000000 := by rw [yaa, yaa]; omega
  generalize numE n ++ textE wd ++ textE ls = X at *
  refine KGO ?_
  refine Ya (Tryz.call66 _ _) (zaP (str X) w10 hb10 (by rw [show (str X).size = X.length from rfl, yaa]; omega) (by have := K10.size; omega)) ?_
  rintro e w11 ⟨rfl, hb11, hbe11, _⟩
  have K11 : Kp w2 w11 n_ := K10.below' hbe11 OM
  rw [show L (str X) = X from rfl] at hb11
  refine RT ?_
  refine KGO ?_
  exact ⟨i + 1, FR, ⟨K11, OM, by rw [hst, ← yap]; exact hb11⟩, DO⟩
 obtain rfl : i = s.terms.length := OM
 rw [yaD] at hb
 refine KGO ?_
 refine Ya (Tryz.call71 _ _) (zdo wr hb OM) ?_
 rintro e w12 ⟨rfl, _, hbe, _⟩
 refine RT ?_
 refine KGO ?_
 exact ⟨rfl, (K2.trans0 hK).below' hbe OM⟩
end
end Go.Proofs.YtennokckmjcefaaGreatDoor
