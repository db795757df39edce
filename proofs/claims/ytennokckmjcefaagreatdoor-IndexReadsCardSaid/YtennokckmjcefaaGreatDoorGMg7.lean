/- Helper lemmas; no conditions of their own. -/
import Derived.Lib.Split
import Derived.Lib.SplitLaws
import Derived.Lib.IndexLaws
import Derived.Lib.IndexBytes
import Derived.Shelf.Strings.SplitCore
import Derived.Shelf.Strings.Search3
import Derived.Shelf.Strings.Count
import Derived.Test.YtennokckmjcefaaGreatDoorGMg5
set_option linter.unusedVariables false
set_option maxHeartbeats 8000000
set_option maxRecDepth 100000
namespace Go.Proofs.YtennokckmjcefaaGreatDoor
open Go.Shelf Go.RowKit Go.Pw Go.Vc Go.Cs Go.Lib Go.Cd Go.Mg
def tmC (t : Trm) : List Value := [.int .i64 t.field, .string (str t.word), .string (str t.list)]
theorem lenTm (x : Trm) : (tmC x).length = 3 := rfl
theorem zuu : (Tryz.prog.info? 141).map (fun i => (i.zero, i.size, i.bytes)) = some (some (.agg #[.int .i64 0, .string ⟨#[]⟩, .string ⟨#[]⟩]), 3, 40) := by kernel_rfl
theorem tyTm : RowTy 63 141 tmC 3 40 := ⟨Tryz.underlying63, ⟨_, zuu, rfl⟩, by decide, lenTm, fun x => yaF.1 (by rfl)⟩
theorem bs2I (x y : Int) (w : World) : (Instr.buildSlice 40 2 [(0, .int .i64 x), (1, .int .i64 y)].toArray).run Tryz.prog w = .ok (.slice (some ⟨w.heap.size, 0, none⟩) 2 2) (w.alloc (.cells (List.toArray [.int .i64 x, .int .i64 y]) 3)) := by
 simp [Instr.buildSlice, go_sem, Tryz.runUnderlying40]
section
variable {w : World}
theorem zrH {b : Nat} (x y : Int) (hat : At w b 0 [.int .i64 x, .int .i64 y]) : Calls Tryz.prog 208 #[.slice (some ⟨b, 0, none⟩) 2 2] w fun e w' => e = .returned (.int .i64 (if x ≠ 0 then x else y)) ∧ Kp w w' n_ := by
 refine zaa (args := [.slice (some ⟨b, 0, none⟩) 2 2]) Tryz.func208 rfl NL ?_; refine GW ?_
 have c0 : w.cell? ⟨b, 0 + 0, none⟩ = some (.int .i64 x) := hat 0 _ rfl
 have c1 : w.cell? ⟨b, 0 + 1, none⟩ = some (.int .i64 y) := hat 1 _ rfl
 refine Yc (ι := Nat) (fun i => [(3, .int .i64 0), (6, .slice (some ⟨b, 0, none⟩) 2 2), (7, .int .i64 2), (8, .int .i64 (i : Nat))])
  (fun i wr => Kp w wr n_ ∧ i ≤ 2 ∧ (1 ≤ i → x = 0) ∧ (2 ≤ i → y = 0)) (fun i => 2 - i) 0 FR ⟨Yb _ _, yal _, fun h => OM, fun h => OM⟩ ?_
 rintro i gg wr ⟨hK, hi, h1, h2⟩
 refine GW ?_
 have hc : i = 0 ∨ i = 1 ∨ i = 2 := OM
 rcases hc with rfl | rfl | rfl
 ·by_cases hx : x = 0
  ·refine KGO ?_
   exact ⟨1, FR, ⟨hK, OM, fun _ => hx, fun h => OM⟩, DO⟩
  refine KGO ?_
  exact ⟨by rw [if_pos hx], hK⟩
 ·have hx := h1 OM
  by_cases hy : y = 0
  ·refine KGO ?_
   exact ⟨2, FR, ⟨hK, OM, fun _ => hx, fun _ => hy⟩, DO⟩
  refine KGO ?_
  exact ⟨by rw [if_neg OM], hK⟩
 have hx := h1 OM
 have hy := h2 OM
 refine KGO ?_
 exact ⟨by rw [hx, hy]; rfl, hK⟩
theorem zmx (x y : Trm) : Calls Tryz.prog 144 #[.agg (tmC x).toArray, .agg (tmC y).toArray] w fun e w' => e = .returned (.int .i64 (cmpT x y)) ∧ Kp w w' n_ := by
 refine zaa (args := [.agg (tmC x).toArray, .agg (tmC y).toArray]) Tryz.func144 rfl NL ?_; refine GW ?_
 obtain ⟨a_b1, v_b1, k_w1, z_w1, r_w1⟩ := new5 w 141 (tmC x)
 generalize w.alloc (.cells (List.toArray (tmC x)) 141) = w1 at *
 generalize hs_b1 : w.heap.size = b1 at *
 obtain ⟨a_b2, v_b2, k_w2, z_w2, r_w2⟩ := new5 w1 141 (tmC y)
 generalize w1.alloc (.cells (List.toArray (tmC y)) 141) = w2 at *
 generalize hs_b2 : w1.heap.size = b2 at *
 have K2 : Kp w w2 n_ := k_w1.trans0 k_w2
 have a1 := at_mono a_b1 k_w2
 clear a_b1
 refine KGO ?_
 refine Yo (fun u => Kp w2 u n_) (fun _ => true) (by decide +kernel) (Yb w2 n_).drew ?_
 refine KGO ?_
 refine Ya (Tryz.call209 _ _) (zkD x.field y.field) ?_
 rintro e w3 ⟨rfl, k3⟩
 have k23 : Kp w2 w3 n_ := ((Yb w2 n_).drew).trans0 k3
 refine RT ?_
 refine ⟨k23, ?_⟩
 refine KGO ?_
 refine Ya (Tryz.call210 _ _) (ziU (str x.word) (str y.word) w3) ?_
 rintro e _ ⟨rfl, rfl⟩
 refine RT ?_
 refine ⟨k23, ?_⟩
 refine KGO ?_
 refine Ye (bs2I _ _ _) ?_
 obtain ⟨a_b4, v_b4, k_w4, z_w4, r_w4⟩ := new5 w3 3 ([.int .i64 (cmpI x.field y.field), .int .i64 (compareBytes (L (str x.word)) (L (str y.word)))])
 generalize w3.alloc (.cells (List.toArray ([.int .i64 (cmpI x.field y.field), .int .i64 (compareBytes (L (str x.word)) (L (str y.word)))])) 3) = w4 at *
 generalize hs_b4 : w3.heap.size = b4 at *
 refine ⟨k23.trans0 k_w4, ?_⟩
 refine KGO ?_
 refine Ya (Tryz.call208 _ _) (zrH _ _ a_b4) ?_
 rintro e w5 ⟨rfl, k5⟩
 refine RT ?_
 refine ⟨(k23.trans0 k_w4).trans0 k5, ?_⟩
 refine KGO ?_
 exact ⟨rfl, K2.trans0 ((k23.trans0 k_w4).trans0 k5)⟩
theorem znh (x : ByteArray) : Calls Tryz.prog 266 #[.string x] w fun e w' => e = .returned (.bool false) ∧ w = w' := by
 refine zaa (args := [.string x]) Tryz.func266 rfl NL ?_; refine GW ?_
 exact ⟨ret_bool (by simp), rfl⟩
theorem zty (x y : List UInt8) (w : World) : Calls Tryz.prog 256 #[.string (str x), .string (str y)] w fun e w' => e = .returned (.int .i64 (compareBytes (L (str x)) (L (str y)))) ∧ w = w' := by
 refine zaa (args := [.string (str x), .string (str y)]) Tryz.func256 rfl NL ?_; refine GW ?_
 refine Ya (Tryz.call266 _ _) (znh (str x)) ?_
 rintro e _ ⟨rfl, rfl⟩
 refine RT ?_
 refine Ya (Tryz.call266 _ _) (znh (str y)) ?_
 rintro e _ ⟨rfl, rfl⟩
 refine RT ?_
 have e : compareBytes (L (str x)) (L (str y)) = if ltT x y = true then -1 else if x = y then 0 else 1 := zsU x y
 rw [e]
 by_cases h1 : ltT x y = true
 ·have hb : Op.bytesLess (str x).toList (str y).toList = true := (znR _ _).trans h1
  rw [if_pos h1]
  refine KGO ?_
  exact ⟨rfl, rfl⟩
 have hb : Op.bytesLess (str x).toList (str y).toList = false := (znR _ _).trans (by simpa using h1)
 rw [if_neg h1]
 have hq : ((str x).toList == (str y).toList) = decide (x = y) := by rw [zsg]
 by_cases h2 : x = y
 ·rw [if_pos h2]
  rw [decide_eq_true h2] at hq
  refine KGO ?_
  rw [hb, hq]
  refine KGO ?_
  exact ⟨rfl, rfl⟩
 rw [if_neg h2]
 rw [decide_eq_false h2] at hq
 refine KGO ?_
 rw [hb, hq]
 refine KGO ?_
 exact ⟨rfl, rfl⟩
theorem zmd (x y : Trm) : Calls Tryz.prog 234 #[.agg (tmC x).toArray, .agg (tmC y).toArray] w fun e w' => e = .returned (.int .i64 (cmpT x y)) ∧ Kp w w' n_ := by
 refine zaa (args := [.agg (tmC x).toArray, .agg (tmC y).toArray]) Tryz.func234 rfl NL ?_; refine GW ?_
 obtain ⟨a_b1, v_b1, k_w1, z_w1, r_w1⟩ := new5 w 141 (tmC x)
 generalize w.alloc (.cells (List.toArray (tmC x)) 141) = w1 at *
 generalize hs_b1 : w.heap.size = b1 at *
 obtain ⟨a_b2, v_b2, k_w2, z_w2, r_w2⟩ := new5 w1 141 (tmC y)
 generalize w1.alloc (.cells (List.toArray (tmC y)) 141) = w2 at *
 generalize hs_b2 : w1.heap.size = b2 at *
 have K2 : Kp w w2 n_ := k_w1.trans0 k_w2
 have a1 := at_mono a_b1 k_w2
 clear a_b1
 refine KGO ?_
 refine Yo (fun u => Kp w2 u n_) (fun _ => true) (by decide +kernel) (Yb w2 n_).drew ?_
 refine KGO ?_
 refine Ya (Tryz.call209 _ _) (zkD x.field y.field) ?_
 rintro e w3 ⟨rfl, k3⟩
 have k23 : Kp w2 w3 n_ := ((Yb w2 n_).drew).trans0 k3
 refine RT ?_
 refine ⟨k23, ?_⟩
 refine KGO ?_
 refine Ya (Tryz.call256 _ _) (zty x.word y.word w3) ?_
 rintro e _ ⟨rfl, rfl⟩
 refine RT ?_
 refine ⟨k23, ?_⟩
 refine KGO ?_
 refine Ye (bs2I _ _ _) ?_
 obtain ⟨a_b4, v_b4, k_w4, z_w4, r_w4⟩ := new5 w3 3 ([.int .i64 (cmpI x.field y.field), .int .i64 (compareBytes (L (str x.word)) (L (str y.word)))])
 generalize w3.alloc (.cells (List.toArray ([.int .i64 (cmpI x.field y.field), .int .i64 (compareBytes (L (str x.word)) (L (str y.word)))])) 3) = w4 at *
 generalize hs_b4 : w3.heap.size = b4 at *
 refine ⟨k23.trans0 k_w4, ?_⟩
 refine KGO ?_
 refine Ya (Tryz.call208 _ _) (zrH _ _ a_b4) ?_
 rintro e w5 ⟨rfl, k5⟩
 refine RT ?_
 refine ⟨(k23.trans0 k_w4).trans0 k5, ?_⟩
 refine KGO ?_
 exact ⟨rfl, K2.trans0 ((k23.trans0 k_w4).trans0 k5)⟩
theorem zoH (x y : Int) : Calls Tryz.prog 130 #[.int .i64 x, .int .i64 y] w fun e w' => e = .returned (.bool (decide (x < y))) ∧ Kp w w' n_ := by
 refine zaa (args := [.int .i64 x, .int .i64 y]) Tryz.func130 rfl NL ?_; refine GW ?_
 refine Ya (Tryz.call189 _ _) (ziT x) ?_
 rintro e _ ⟨rfl, rfl⟩
 refine RT ?_
 refine KGO ?_
 exact ⟨rfl, Yb _ _⟩
theorem zru (x : Int) : Calls Tryz.prog 131 #[.int .i64 x] w fun e w' => e = .returned (.bool false) ∧ w = w' := by
 refine zaa (args := [.int .i64 x]) Tryz.func131 rfl NL ?_; refine GW ?_
 exact ⟨ret_bool (by simp), rfl⟩
theorem bs_I {v : Value} (l : List Int) (n : Int) (hv : RowI w v l) (hl : l.length ≤ 100000000000) : Calls Tryz.prog 81 #[v, .int .i64 n] w fun e w' =>
  ∃ (k : Nat) (b : Bool), e = .returned (.tuple #[.int .i64 (k : Nat), .bool b]) ∧ (AscB ltI l → b = decide (n ∈ l)) ∧ Kp w w' n_ := by
 obtain ⟨a, cap, rfl, hr⟩ := hv
 refine zaa (args := [.slice a l.length cap, .int .i64 n]) Tryz.func81 rfl NL ?_; refine GW ?_
 refine Yc (ι := Nat × Nat) (fun p => [(0, .slice a l.length cap), (1, .int .i64 n), (6, .int .i64 (l.length : Nat)), (7, .int .i64 (p.1 : Nat)), (8, .int .i64 (p.2 : Nat))])
  (fun p wr => Kp w wr n_ ∧ p.1 ≤ p.2 ∧ p.2 ≤ l.length ∧ (AscB ltI l → (∀ m (hm : m < l.length), m < p.1 → l[m] < n) ∧ ∀ m (hm : m < l.length), p.2 ≤ m → ¬ l[m] < n)) (fun p => p.2 - p.1) (0, l.length) FR
  ⟨Yb _ _, OM, yag _, fun _ => ⟨fun m _ hm => OM, fun m h1 h2 => OM⟩⟩ ?_
 rintro ⟨i, j⟩ g wr ⟨hK, hij, hj, hord⟩
 dsimp only at hij hj hord ⊢
 refine GW ?_
 by_cases hlt : i < j
 ·obtain ⟨gb, o, rfl, hgb, hat⟩ := hr OM
  refine KGO ?_
  rw [zid i j OM]
  have hm1 : i ≤ (i + j) / 2 := OM
  have hm2 : (i + j) / 2 < j := OM
  generalize (i + j) / 2 = h at *
  have hhl : h < l.length := OM
  have ch := zaJ hat hhl
  refine KGO ?_
  refine Ya (Tryz.call130 _ _) (zoH l[h] n) ?_
  rintro e w1 ⟨rfl, k1⟩
  refine RT ?_
  by_cases hc : l[h] < n
  ·refine KGO ?_
   refine ⟨(h + 1, j), FR, ⟨hK.trans0 k1, DO, hj, fun hp => ⟨fun m hm hmh => ?_, (hord hp).2⟩⟩, DO⟩
   dsimp only at hmh
   by_cases e : m = h
   ·subst e; exact hc
   have := of_decide_eq_true ((yaH.1 hp) m h hm hhl OM); omega
  refine KGO ?_
  refine ⟨(i, h), FR, ⟨hK.trans0 k1, DO, DO, fun hp => ⟨(hord hp).1, fun m hm hmh => ?_⟩⟩, DO⟩
  dsimp only at hmh
  by_cases e : m = h
  ·subst e; exact hc
  have := of_decide_eq_true ((yaH.1 hp) h m hhl hm OM); omega
 have hji : j = i := OM
 subst hji
 by_cases h17 : j < l.length
 ·obtain ⟨gb, o, rfl, hgb, hat⟩ := hr OM
  have ch := zaJ hat h17
  by_cases he : l[j] = n
  ·refine KGO ?_
   exact ⟨j, _, rfl, fun hp => (decide_eq_true (he ▸ yak h17)).symm, hK⟩
  have hno : AscB ltI l → n ∉ l := fun hp hm => by
   obtain ⟨m, hm', rfl⟩ := ybh hm
   rcases Nat.lt_trichotomy m j with h | h | h
   ·have := (hord hp).1 m hm' h; omega
   ·subst h; exact he rfl
   have h1 := of_decide_eq_true ((yaH.1 hp) j m h17 hm' h)
   have h2 := (hord hp).2 j h17 (yag _); omega
  refine KGO ?_
  refine Ya (Tryz.call131 _ _) (zru l[j]) ?_
  rintro e _ ⟨rfl, rfl⟩
  refine RT ?_
  refine KGO ?_
  exact ⟨j, _, rfl, fun hp => (decide_eq_false (hno hp)).symm, hK⟩
 refine KGO ?_
 refine ⟨j, _, rfl, fun hp => (decide_eq_false fun hm => ?_).symm, hK⟩
 obtain ⟨m, hm', rfl⟩ := ybh hm
 have := (hord hp).1 m hm' OM; omega
theorem ziS {v : Value} (u : List UInt8) (docs : List Int) (hv : RowI w v docs) (hl : docs.length ≤ 100000000000) (hu : u.length ≤ 10000000) (hs : AscB ltI docs) : Calls Tryz.prog 170 #[.string (str u), v] w fun e w' => e = .returned (.bool (zbx docs u)) ∧ Kp w w' n_ := by
 have hv0 := hv
 obtain ⟨a, cap, rfl, hr⟩ := hv
 refine zaa (args := [.string (str u), .slice a docs.length cap]) Tryz.func170 rfl NL ?_; refine GW ?_
 refine Ya (Tryz.call167 _ _) (zdS (w := w) u hu) ?_
 rintro e w1 ⟨⟨vp, rfl, op, hno⟩, k1⟩
 obtain ⟨ap, cp, rfl⟩ := op.shape
 have hok : zbx docs u = ((decP u).isSome && ((decP u).getD []).all (fun x => decide (x.doc ∈ docs)) && decide (0 < ((decP u).getD []).length)) := by
  unfold zbx
  cases decP u with
  | none => rfl
  | some p => cases p <;> simp
 have hlen : ((decP u).getD []).length ≤ 10000000 := by
  cases h : decP u with
  | none => simp
  | some p =>
   have h1 := (zde.1 h)
   have h2 := zaZ p
   have h3 := h1.2
   rw [zcz h1.1] at h3
   have h4 := congrArg List.length h3
   rw [yaa] at h4
   have h5 : (encN 0 p).length ≤ ((encN 0 p).flatMap numE).length := by
    generalize encN 0 p = q
    induction q with
    | nil => simp
    | cons n q ih => have := zca n; rw [yao, yaa, yab]; omega
   show p.length ≤ _
   omega
 generalize (decP u).getD [] = P at *
 generalize (decP u).isSome = q at *
 obtain ⟨lx, rfl, hlx⟩ := op
 rw [yaf] at hlen
 obtain ⟨a1, c1, e1, hra⟩ := hlx.rd.row
 rw [yaf] at *
 injection e1 with e1 e2 e3
 subst e1 e3
 refine RT ?_
 refine KGO ?_
 rw [hok]
 refine Yc (ι := Nat) (fun i => [(1, .slice a docs.length cap), (5, .slice ap lx.length cp), (6, .bool (q && (lx.take i).all fun x => decide (x.p.doc ∈ docs))), (16, .slice ap lx.length cp), (17, .int .i64 (lx.length : Nat)), (18, .int .i64 (i : Nat))])
  (fun i wr => Kp w1 wr n_ ∧ i ≤ lx.length) (fun i => lx.length - i) 0 ⟨rfl, rfl, by simp [upd], rfl, rfl, rfl, trivial⟩ ⟨Yb _ _, yal _⟩ ?_
 rintro i gg wr ⟨hK, hi⟩
 refine GW ?_
 by_cases hlt : i < lx.length
 ·obtain ⟨ga, oa, rfl, hga, hata⟩ := hra OM
  refine KGO ?_
  refine Yg (vs := prC lx[i]) (by rfl) rfl (zak (by rfl)) ?_
  obtain ⟨a_b2, k_w2, z_w2⟩ := new3 wr 44 (prC lx[i])
  generalize wr.alloc (.cells (List.toArray (prC lx[i])) 44) = w2 at *
  generalize hs_b2 : wr.heap.size = b2 at *
  have K2 := hK.trans0 k_w2
  refine KGO ?_
  refine Ya (Tryz.call81 _ _) (bs_I (w := w2) docs lx[i].p.doc (hv0.keep (k1.trans0 K2)) hl) ?_
  rintro e w3 ⟨k, b, rfl, hb, k3⟩
  rw [hb hs]
  refine RT ?_
  have K3 := K2.trans0 k3
  have hsn : (lx.take (i + 1)).all (fun x => decide (x.p.doc ∈ docs)) = ((lx.take i).all (fun x => decide (x.p.doc ∈ docs)) && decide (lx[i].p.doc ∈ docs)) := by
   rw [yad hlt, List.all_append]; simp
  cases hq : (q && (lx.take i).all fun x => decide (x.p.doc ∈ docs)) with
  | false =>
   refine KGO ?_
   exact ⟨i + 1, ⟨rfl, rfl, by simp only [hsn, ← Bool.and_assoc, hq]; rfl, rfl, rfl, VS, trivial⟩, ⟨K3, OM⟩, DO⟩
  | true =>
   refine KGO ?_
   exact ⟨i + 1, ⟨rfl, rfl, by simp only [hsn, ← Bool.and_assoc, hq]; rfl, rfl, rfl, VS, trivial⟩, ⟨K3, OM⟩, DO⟩
 rw [yaz OM]
 have hall : (lx.map (·.p)).all (fun x => decide (x.doc ∈ docs)) = lx.all fun x => decide (x.p.doc ∈ docs) := by rw [List.all_map]; rfl
 rw [hall]
 cases hq : (q && lx.all fun x => decide (x.p.doc ∈ docs)) with
 | false =>
  refine KGO ?_
  exact ⟨rfl, k1.trans0 hK⟩
 | true =>
  refine KGO ?_
  exact ⟨ret_bool (by simp), k1.trans0 hK⟩
end
theorem zhA {w : World} {B : Nat} {v : Value} {l : List (List UInt8)} (h : Txs w B v l) : OwnT w B v l := by
 have e : ∀ l : List (List UInt8), l.flatMap txC = l.map sv := fun l => by
  induction l with
  | nil => rfl
  | cons a l ih => rw [yao, yas, ih]; rfl
 unfold OwnT
 rw [e l]; exact h
structure Sv where
 t : Sl
 d : Sl
instance : Inhabited Sv := ⟨⟨⟨none, 0, 0⟩, ⟨none, 0, 0⟩⟩⟩
def sgC (h : Sv) : List Value := [.slice h.t.a h.t.n h.t.c, .slice h.d.a h.d.n h.d.c]
structure RdS (w : World) (h : Sv) (s : Sgm) : Prop where
 t : RowO w h.t.v tmC s.terms
 d : RowI w h.d.v s.docs
 tc : CapK h.t.v
 dc : CapK h.d.v
theorem RdS.keep {w w' : World} {h : Sv} {s : Sgm} (r : RdS w h s) (k : Kp w w' n_) : RdS w' h s := ⟨r.t.keep k, r.d.keep k, r.tc, r.dc⟩
structure SmT (t : Trm) : Prop where
 w : t.word.length ≤ 10000000
 l : t.list.length ≤ 10000000
structure SmS (s : Sgm) : Prop where
 d : s.docs.length ≤ 1000000000
 t : s.terms.length ≤ 1000000000
 x : ∀ t ∈ s.terms, SmT t
structure CEnv (w : World) : Prop where
 c : zeV w
 f : zcv w
theorem CEnv.keep {w w' : World} (h : CEnv w) (k : Kp w w' n_) : CEnv w' := ⟨h.c.keep k, h.f.keep k⟩
theorem pw_consec {α : Type} {lt : α → α → Bool} (htr : ∀ a b c, lt a b = true → lt b c = true → lt a c = true) (l : List α) (hc : ∀ j (hj : j + 1 < l.length), lt (l[j]'OM) l[j + 1] = true) : AscB lt l := by
 refine yaH.2 fun i j hi hj hij => ?_
 obtain ⟨d, rfl⟩ : ∃ d, j = i + 1 + d := ⟨j - i - 1, OM⟩
 induction d with
 | zero => exact hc i hj
 | succ d ih => exact htr _ _ _ (ih OM OM) (hc (i + 1 + d) hj)
theorem zah {s : Sgm} : rightS s = true ↔ (AscB ltI s.docs ∧ ∀ n ∈ s.docs, 1 ≤ n ∧ n ≤ 1099511627776) ∧ (∀ t ∈ s.terms, zax s.docs t = true) ∧ s.terms.Pairwise fun a b => ltK a.key b.key = true := by
 unfold rightS
 rw [yaq, yaq, Go.Mg.risesB_iff, ascTm_iff, yaF, and_assoc]
section
variable {w : World}
theorem zfh (h : Sv) (s : Sgm) (hr : RdS w h s) (hs : SmS s) (hE : CEnv w) : Calls Tryz.prog 116 #[.agg (sgC h).toArray] w fun e w' => e = .returned (.bool (rightS s)) ∧ Kp w w' n_ := by
 have hn1 := Yl hr.t
 have hn2 := Yl hr.d
 obtain ⟨at_, ct, et, hrt⟩ := hr.t
 obtain ⟨ad, cd, ed, hrd⟩ := hr.d
 have hrd0 := hr.d
 obtain ⟨⟨ta, tn, tc⟩, ⟨da, dn, dc⟩⟩ := h
 injection et with q1 q2 q3
 injection ed with q4 q5 q6
 dsimp only at q1 q2 q3 q4 q5 q6 hrd0
 subst q1 q2 q3 q4 q5 q6
 have hsd := hs.d
 have hst := hs.t
 clear hn1 hn2
 refine zaa (args := [.agg (sgC ⟨⟨ta, s.terms.length, tc⟩, ⟨da, s.docs.length, dc⟩⟩).toArray]) Tryz.func116 rfl NL ?_; refine GW ?_
 obtain ⟨a_b1, v_b1, k_w1, z_w1, r_w1⟩ := new5 w 65 (sgC ⟨⟨ta, s.terms.length, tc⟩, ⟨da, s.docs.length, dc⟩⟩)
 generalize w.alloc (.cells (List.toArray (sgC ⟨⟨ta, s.terms.length, tc⟩, ⟨da, s.docs.length, dc⟩⟩)) 65) = w1 at *
 generalize hs_b1 : w.heap.size = b1 at *
 unfold sgC at a_b1
 dsimp only at a_b1
 refine KGO ?_
 refine Yc (ι := Nat) (fun i => [(1, .pointer (some ⟨b1, 0, none⟩)), (9, .slice da s.docs.length dc), (10, .int .i64 (s.docs.length : Nat)), (11, .int .i64 (i : Nat))])
  (fun i wr => Kp w1 wr n_ ∧ i ≤ s.docs.length ∧ (∀ n ∈ s.docs.take i, 1 ≤ n ∧ n ≤ 1099511627776) ∧ ∀ j (hj : j + 1 < s.docs.length), j + 1 < i → ltI (s.docs[j]'OM) s.docs[j + 1] = true) (fun i => s.docs.length - i) 0 FR ⟨Yb _ _, yal _, by simp, fun j hj h => OM⟩ ?_
 rintro i gg wr ⟨hK, hi, hra, hrc⟩
 have hKw := k_w1.trans0 hK
 clear r_w1
 refine GW ?_
 by_cases hlt : i < s.docs.length
 ·obtain ⟨g, o, rfl, hg, hat⟩ := hrd OM
  have ci := zaJ hat hlt
  have hno : ¬ (1 ≤ s.docs[i] ∧ s.docs[i] ≤ 1099511627776) → rightS s = false := fun h => by
   cases hq : rightS s with
   | false => rfl
   | true => exact absurd ((zah.1 hq).1.2 _ (yak hlt)) h
  have hat' := hat
  clear hrt hat
  by_cases h1 : s.docs[i] < 1
  ·refine KGO ?_
   exact ⟨ret_bool (hno OM).symm, hKw⟩
  by_cases h2 : 1099511627776 < s.docs[i]
  ·refine KGO ?_
   exact ⟨ret_bool (hno OM).symm, hKw⟩
  have hra2 : ∀ n ∈ s.docs.take (i + 1), 1 ≤ n ∧ n ≤ 1099511627776 := fun n hn => by
   rw [yad hlt, yaj, yac] at hn
   rcases hn with hn | rfl
   ·exact hra n hn
   omega
  cases i with
  | zero =>
   refine KGO ?_
   exact ⟨1, FR, ⟨hK, OM, hra2, fun j hj h => OM⟩, DO⟩
  | succ k =>
   have ck : w.cell? ⟨g, o + k, none⟩ = some (.int .i64 s.docs[k]) := zaJ hat' OM
   have e1 : (((k + 1 : Nat) : Int) - 1).toNat = k := OM
   refine KGO ?_
   rw [e1]
   refine KGO ?_
   by_cases h3 : s.docs[k + 1] ≤ s.docs[k]
   ·refine KGO ?_
    refine ⟨ret_bool ?_, hKw⟩
    cases hq : rightS s with
    | false => rfl
    | true =>
     have := of_decide_eq_true ((yaH.1 (zah.1 hq).1.1) k (k + 1) OM hlt OM)
     omega
   refine KGO ?_
   refine ⟨k + 1 + 1, FR, ⟨hK, OM, hra2, fun j hj h => ?_⟩, DO⟩
   by_cases hj2 : j + 1 < k + 1
   ·exact hrc j hj hj2
   obtain rfl : j = k := OM
   exact decide_eq_true OM
 have hdok : AscB ltI s.docs ∧ ∀ n ∈ s.docs, 1 ≤ n ∧ n ≤ 1099511627776 := by
  rw [yaz OM] at hra
  exact ⟨pw_consec stoI.tr _ fun j hj => hrc j hj OM, hra⟩
 have q1 := Yb wr n_
 clear hrd hra hrc
 refine KGO ?_
 refine Yc (ι := Nat) (fun i => [(1, .pointer (some ⟨b1, 0, none⟩)), (38, .slice ta s.terms.length tc), (39, .int .i64 (s.terms.length : Nat)), (40, .int .i64 (i : Nat))])
  (fun i wr => Kp w1 wr n_ ∧ i ≤ s.terms.length ∧ (∀ t ∈ s.terms.take i, zax s.docs t = true) ∧ ∀ j (hj : j + 1 < s.terms.length), j + 1 < i → ltK (s.terms[j]'OM).key s.terms[j + 1].key = true) (fun i => s.terms.length - i) 0 FR ⟨hK, yal _, by simp, fun j hj h => OM⟩ ?_
 clear hlt hi hKw hK q1
 rintro i gg wr ⟨hK, hi, hok, hrc⟩
 have hKw := k_w1.trans0 hK
 refine GW ?_
 by_cases hlt : i < s.terms.length
 rotate_left
 ·rw [yaz OM] at hok
  have hall : rightS s = true := zah.2 ⟨hdok, hok, pw_consec (α := Trm) (lt := fun a b => ltK a.key b.key) (fun a b c => stoK.tr _ _ _) _ fun j hj => hrc j hj OM⟩
  refine KGO ?_
  exact ⟨ret_bool hall.symm, hKw⟩
 obtain ⟨g, o, rfl, hg, hat⟩ := hrt OM
 have hsm := hs.x _ (yak hlt)
 have hno : zax s.docs s.terms[i] = false → rightS s = false := fun h => by
  cases hq : rightS s with
  | false => rfl
  | true => rw [(zah.1 hq).2.1 _ (yak hlt)] at h; cases h
 refine KGO ?_
 refine Yg (vs := tmC s.terms[i]) (by rfl) rfl (zak (by rfl)) ?_
 obtain ⟨a_b6, k_w2, z_w2⟩ := new3 wr 141 (tmC s.terms[i])
 generalize wr.alloc (.cells (List.toArray (tmC s.terms[i])) 141) = w2 at *
 generalize hs_b6 : wr.heap.size = b6 at *
 have K2 := hKw.trans0 k_w2
 have a_b1' := at_mono a_b1 (hK.trans0 k_w2)
 have q2 := Yb w2 n_
 have hs1 : (str s.terms[i].word).size = s.terms[i].word.length := rfl
 by_cases f1 : s.terms[i].field ≤ 0
 ·refine KGO ?_
  exact ⟨ret_bool (hno (by unfold zax; rw [decide_eq_false (show ¬ (1 ≤ s.terms[i].field ∧ s.terms[i].field ≤ 5) by omega)]; rfl)).symm, K2.drew⟩
 by_cases f2 : 6 ≤ s.terms[i].field
 ·refine KGO ?_
  exact ⟨ret_bool (hno (by unfold zax; rw [decide_eq_false (show ¬ (1 ≤ s.terms[i].field ∧ s.terms[i].field ≤ 5) by omega)]; rfl)).symm, K2.drew⟩
 have hfd : decide (1 ≤ s.terms[i].field ∧ s.terms[i].field ≤ 5) = true := decide_eq_true OM
 have hokt : zax s.docs s.terms[i] = (decide (wordsOf s.terms[i].word = [s.terms[i].word]) && zbx s.docs s.terms[i].list) := by unfold zax; rw [hfd]; rfl
 cases i with
 | zero =>
  refine KGO ?_
  have hcons : ∀ j (hj : j + 1 < s.terms.length), j + 1 < 0 + 1 → ltK (s.terms[j]'OM).key s.terms[j + 1].key = true := fun j hj h => OM
  refine Ya (Tryz.call25 _ _) (zho (w := w2.drew) (str s.terms[0].word) ((hE.keep (K2.trans0 (q2.drew))).c) ((hE.keep (K2.trans0 (q2.drew))).f) (by have := hsm.w; omega)) ?_
  rintro e w4 ⟨v4, rfl, o4, k4⟩
  rw [show listL (L (str s.terms[0].word)) = wordsOf s.terms[0].word from rfl] at o4
  have o4 := zhA o4
  have K4 : Kp w w4 n_ := (K2.trans0 (q2.drew)).trans0 k4
  have J4 : Kp w1 w4 n_ := ((hK.trans0 k_w2).trans0 (q2.drew)).trans0 k4
  have ab6 := at_mono a_b6 ((q2.drew).trans0 k4)
  have ab1 := at_mono a_b1 J4
  have q4 := Yb w4 n_
  generalize wordsOf s.terms[0].word = W at *
  obtain ⟨a4, c4, rfl⟩ := zab o4
  have rw4 := own_rowO o4
  refine RT ?_
  by_cases g1 : W.length = 1
  rotate_left
  ·refine KGO ?_
   exact ⟨ret_bool (hno (by rw [hokt, decide_eq_false (fun h => g1 (by rw [h]; rfl))]; rfl)).symm, K4.drew⟩
  obtain ⟨wd, rfl⟩ := ybO.1 g1
  rw [ybu] at *
  obtain ⟨_, _, e4, hr4⟩ := rw4
  injection e4 with e4 _ _
  subst e4
  obtain ⟨g4, o4', rfl, _, hat4⟩ := hr4 (by simp)
  have c40 : w4.cell? ⟨g4, o4' + 0, none⟩ = some (.string (str wd)) := hat4 0 _ rfl
  by_cases g2 : wd = s.terms[0].word
  rotate_left
  ·have g2' : ¬ str wd = str s.terms[0].word := fun h => g2 (zbB.1 h)
   refine KGO ?_
   exact ⟨ret_bool (hno (by rw [hokt, decide_eq_false (fun h => g2 (by injection h))]; rfl)).symm, K4.drew⟩
  have g2' : str wd = str s.terms[0].word := by rw [g2]
  have hokt2 : zax s.docs s.terms[0] = zbx s.docs s.terms[0].list := by rw [hokt, decide_eq_true (by rw [g2])]; rfl
  refine KGO ?_
  refine Ya (Tryz.call170 _ _) (ziS (w := w4.drew) s.terms[0].list s.docs (hrd0.keep K4.drew) OM hsm.l hdok.1) ?_
  rintro e w5 ⟨rfl, k5⟩
  rw [← hokt2]
  have k45 : Kp w4 w5 n_ := q4.drew.trans0 k5
  refine RT ?_
  cases hq : zax s.docs s.terms[0] with
  | false =>
   refine KGO ?_
   exact ⟨ret_bool (hno hq).symm, K4.trans0 k45⟩
  | true =>
   refine KGO ?_
   exact ⟨0 + 1, FR, ⟨J4.trans0 k45, OM, fun t ht => by
    rw [yad hlt, yaj, yac] at ht
    rcases ht with ht | rfl
    ·exact hok t ht
    exact hq, fun j hj h => hcons j hj OM⟩, DO⟩
 | succ k =>
  have e1 : (((k + 1 : Nat) : Int) - 1).toNat = k := OM
  refine KGO ?_
  simp only [e1]
  refine Ya (Tryz.call144 _ _) (zmx (w := w2.drew) s.terms[k] s.terms[k + 1]) ?_
  rintro e w3 ⟨rfl, k3⟩
  refine RT ?_
  have k23 : Kp w2 w3 n_ := q2.drew.trans0 k3
  have q3 := Yb w3 n_
  by_cases hc : cmpT s.terms[k] s.terms[k + 1] < 0
  ·refine KGO ?_
   have hcons : ∀ j (hj : j + 1 < s.terms.length), j + 1 < (k + 1) + 1 → ltK (s.terms[j]'OM).key s.terms[j + 1].key = true := fun j hj h => by
    by_cases hj2 : j + 1 < k + 1
    ·exact hrc j hj hj2
    obtain rfl : j = k := OM
    exact (zft _ _).1 hc
   refine Ya (Tryz.call25 _ _) (zho (w := w3) (str s.terms[k + 1].word) ((hE.keep (K2.trans0 k23)).c) ((hE.keep (K2.trans0 k23)).f) (by have := hsm.w; omega)) ?_
   rintro e w4 ⟨v4, rfl, o4, k4⟩
   rw [show listL (L (str s.terms[k + 1].word)) = wordsOf s.terms[k + 1].word from rfl] at o4
   have o4 := zhA o4
   have K4 : Kp w w4 n_ := (K2.trans0 k23).trans0 k4
   have J4 : Kp w1 w4 n_ := ((hK.trans0 k_w2).trans0 k23).trans0 k4
   have ab6 := at_mono a_b6 (k23.trans0 k4)
   have ab1 := at_mono a_b1 J4
   have q4 := Yb w4 n_
   generalize wordsOf s.terms[k + 1].word = W at *
   obtain ⟨a4, c4, rfl⟩ := zab o4
   have rw4 := own_rowO o4
   refine RT ?_
   by_cases g1 : W.length = 1
   rotate_left
   ·refine KGO ?_
    exact ⟨ret_bool (hno (by rw [hokt, decide_eq_false (fun h => g1 (by rw [h]; rfl))]; rfl)).symm, K4.drew⟩
   obtain ⟨wd, rfl⟩ := ybO.1 g1
   rw [ybu] at *
   obtain ⟨_, _, e4, hr4⟩ := rw4
   injection e4 with e4 _ _
   subst e4
   obtain ⟨g4, o4', rfl, _, hat4⟩ := hr4 (by simp)
   have c40 : w4.cell? ⟨g4, o4' + 0, none⟩ = some (.string (str wd)) := hat4 0 _ rfl
   by_cases g2 : wd = s.terms[k + 1].word
   rotate_left
   ·have g2' : ¬ str wd = str s.terms[k + 1].word := fun h => g2 (zbB.1 h)
    refine KGO ?_
    exact ⟨ret_bool (hno (by rw [hokt, decide_eq_false (fun h => g2 (by injection h))]; rfl)).symm, K4.drew⟩
   have g2' : str wd = str s.terms[k + 1].word := by rw [g2]
   have hokt2 : zax s.docs s.terms[k + 1] = zbx s.docs s.terms[k + 1].list := by rw [hokt, decide_eq_true (by rw [g2])]; rfl
   refine KGO ?_
   refine Ya (Tryz.call170 _ _) (ziS (w := w4.drew) s.terms[k + 1].list s.docs (hrd0.keep K4.drew) OM hsm.l hdok.1) ?_
   rintro e w5 ⟨rfl, k5⟩
   rw [← hokt2]
   have k45 : Kp w4 w5 n_ := q4.drew.trans0 k5
   refine RT ?_
   cases hq : zax s.docs s.terms[k + 1] with
   | false =>
    refine KGO ?_
    exact ⟨ret_bool (hno hq).symm, K4.trans0 k45⟩
   | true =>
    refine KGO ?_
    exact ⟨k + 1 + 1, FR, ⟨J4.trans0 k45, OM, fun t ht => by
     rw [yad hlt, yaj, yac] at ht
     rcases ht with ht | rfl
     ·exact hok t ht
     exact hq, fun j hj h => hcons j hj OM⟩, DO⟩
  refine KGO ?_
  refine ⟨ret_bool ?_, K2.trans0 k23⟩
  cases hq : rightS s with
  | false => rfl
  | true => exact absurd ((zft _ _).2 ((yaH.1 (zah.1 hq).2.2) k (k + 1) OM hlt OM)) hc
end
section
variable {w : World}
theorem zbN (t : Trm) (hl : t.list.length ≤ 10000000) : Calls Tryz.prog 235 #[.agg (tmC t).toArray] w fun e w' => ∃ v, e = .returned v ∧ OwnP w' w.heap.size v ((decP t.list).getD []) ∧ Kp w w' n_ := by
 refine zaa (args := [.agg (tmC t).toArray]) Tryz.func235 rfl NL ?_; refine GW ?_
 obtain ⟨a_b1, v_b1, k_w1, z_w1, r_w1⟩ := new5 w 141 (tmC t)
 generalize w.alloc (.cells (List.toArray (tmC t)) 141) = w1 at *
 generalize hs_b1 : w.heap.size = b1 at *
 refine KGO ?_
 refine Ya (Tryz.call167 _ _) (zdS (w := w1) t.list hl) ?_
 rintro e w2 ⟨⟨v, rfl, hv, hno⟩, k2⟩
 obtain ⟨a, c, rfl⟩ := hv.shape
 refine RT ?_
 exact ⟨_, rfl, hv.base OM, k_w1.trans0 k2⟩
theorem zsr (w : World) : (Instr.build 65 [].toArray).run Tryz.prog w = .ok (.agg #[.slice none 0 0, .slice none 0 0]) w := by
 simp [Instr.build, Instr.fill, go_sem, Tryz.runUnderlying65]
theorem zso (w : World) : RdS w ⟨⟨none, 0, 0⟩, ⟨none, 0, 0⟩⟩ ⟨[], []⟩ := ⟨⟨none, 0, rfl, fun h => by simp at h⟩, ⟨none, 0, rfl, fun h => by simp at h⟩, fun a n c e => by injection e with _ e1 e2; subst e1; exact yal _, fun a n c e => by injection e with _ e1 e2; subst e1; exact yal _⟩
theorem zkp (h : Sv) (s : Sgm) (hr : RdS w h s) (hs : SmS s) (hE : CEnv w) : Calls Tryz.prog 195 #[.agg (sgC h).toArray] w fun e w' => ∃ h', e = .returned (.agg (sgC h').toArray) ∧ (∀ w0, RdS w0 h s → RdS w0 h' (validS s)) ∧ Kp w w' n_ := by
 refine zaa (args := [.agg (sgC h).toArray]) Tryz.func195 rfl NL ?_; refine GW ?_
 obtain ⟨a_b1, v_b1, k_w1, z_w1, r_w1⟩ := new5 w 65 (sgC h)
 generalize w.alloc (.cells (List.toArray (sgC h)) 65) = w1 at *
 generalize hs_b1 : w.heap.size = b1 at *
 obtain ⟨a_b2, v_b2, k_w2, z_w2, r_w2⟩ := new5 w1 65 ([.slice none 0 0, .slice none 0 0])
 generalize w1.alloc (.cells (List.toArray ([.slice none 0 0, .slice none 0 0])) 65) = w2 at *
 generalize hs_b2 : w1.heap.size = b2 at *
 have K2 : Kp w w2 n_ := k_w1.trans0 k_w2
 have a1 := at_mono a_b1 k_w2
 clear a_b1
 refine KGO ?_
 refine Ya (Tryz.call116 _ _) (zfh (w := w2) h s (hr.keep K2) hs (hE.keep K2)) ?_
 rintro e w3 ⟨rfl, k3⟩
 have K3 := K2.trans0 k3
 have v3 := v_b2.keep0 k3
 have z3 := k_w1.size
 refine RT ?_
 unfold validS
 cases hq : rightS s with
 | false =>
  refine KGO ?_
  refine Ye (zsr _) ?_
  refine KGO ?_
  refine Yi [.slice none 0 0, .slice none 0 0] v3 (by rfl) rfl (zak (by rfl)) fun w4 v4 k4 => ?_
  have a4 := v4.at
  have q4 := Yb w4 n_
  refine KGO ?_
  refine GW ?_
  exact ⟨⟨⟨none, 0, 0⟩, ⟨none, 0, 0⟩⟩, rfl, fun w0 _ => zso _, keeps_new K3 k4 OM⟩
 | true =>
  refine KGO ?_
  refine SVK (sgC h) v3 fun w4 v4 k4 => ?_
  have a4 := v4.at
  have q4 := Yb w4 n_
  have K4 := keeps_new K3 k4 OM
  refine KGO ?_
  refine GW ?_
  exact ⟨h, rfl, fun w0 r => r, K4⟩
end
end Go.Proofs.YtennokckmjcefaaGreatDoor
