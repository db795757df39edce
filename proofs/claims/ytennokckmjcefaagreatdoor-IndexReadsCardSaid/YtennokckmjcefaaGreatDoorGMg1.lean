/- Helper lemmas; no conditions of their own. -/
import Derived.Test.YtennokckmjcefaaGreatDoorGCd2
set_option linter.unusedVariables false
set_option maxHeartbeats 4000000
set_option maxRecDepth 100000
namespace Go.Proofs.YtennokckmjcefaaGreatDoor
open Go.Shelf Go.RowKit Go.Pw Go.Vc Go.Cs Go.Lib Go.Cd Go.Mg
def notD (D : List TypeId) (w : World) (q : Nat) : Prop := ∀ cs T z, w.heap[q]? = some (.cells cs T z) → T ∉ D
theorem zag {D : List TypeId} {w : World} {b : Nat} {T : TypeId} {cs : List Value} (h : VarK w b T cs) (hT : T ∉ D) : ∀ q, q < w.heap.size → one_ b q → notD D w q := fun q _ e cs' T' z hh => by
 have e : q = b := e
 subst e
 unfold VarK at h
 rw [h] at hh
 injection hh with hh
 injection hh with _ h2
 rw [← h2]; exact hT
theorem zaC {D : List TypeId} {w : World} {B s n : Nat} {E : TypeId} {v : Value} {xs : List Value} (h : w.ownsRow B E s v n xs) (hE : E ∉ D) : ∀ q, q < w.heap.size → own_ v q → notD D w q := fun q _ e cs T z hh => by
 rcases h.2 with ⟨rfl, _⟩ | ⟨g, cap, cur, rfl, _, hr, _⟩
 ·cases e
 have e : g = q := by simpa [own_, Value.ownBlock] using e
 subst e
 rw [hr] at hh
 injection hh with hh
 injection hh with _ h2
 rw [← h2]; exact hE
theorem zfR {D : List TypeId} {w : World} : ∀ q, q < w.heap.size → n_ q → notD D w q := fun q _ e => e.elim
theorem zat {w : World} {B s n q : Nat} {E : TypeId} {v : Value} {xs : List Value} (h : w.ownsRow B E s v n xs) (hq : v.ownBlock = some q) : ∃ cs z, w.heap[q]? = some (.cells cs E z) ∧ B ≤ q ∧ q < w.heap.size := by
 rcases h.2 with ⟨rfl, _⟩ | ⟨g, cap, cur, rfl, hb, hr, _⟩
 ·cases hq
 injection hq with e
 subst e
 refine ⟨_, _, hr, hb, ?_⟩
 rcases yby g w.heap.size with h' | h'
 ·exact h'
 rw [Array.getElem?_eq_none h'] at hr; cases hr
theorem zad {D : List TypeId} {w w' : World} {c : Nat → Prop} {B s n : Nat} {E : TypeId} {v : Value} {xs : List Value} (h : w.ownsRow B E s v n xs) (k : Kp w w' c) (hc : ∀ q, q < w.heap.size → c q → notD D w q) (hE : E ∈ D) : w'.ownsRow B E s v n xs :=
 own_keep h k fun q hq e => by
  obtain ⟨cs, z, hh, _, hlt⟩ := zat h hq
  exact hc q hlt e _ _ _ hh hE
theorem zac {w : World} {B s n b : Nat} {E T : TypeId} {v : Value} {xs cs : List Value} (h : w.ownsRow B E s v n xs) (hv : VarK w b T cs) (hne : E ≠ T) : ¬ own_ v b := fun e => by
 obtain ⟨cs', z, hh, _⟩ := zat h e
 unfold VarK at hv
 rw [hv] at hh
 injection hh with hh
 injection hh with _ h2
 exact hne h2.symm
def CapK (v : Value) : Prop := ∀ a n c, v = .slice a n c → n ≤ c
theorem own_capK {w : World} {B s n : Nat} {E : TypeId} {v : Value} {xs : List Value} (h : w.ownsRow B E s v n xs) : CapK v := fun a n' c e => by
 subst e
 rcases h.2 with ⟨h1, h2⟩ | ⟨g, cap', cur, h1, hb, hgg, h3, h4, _⟩
 ·injection h1 with _ h5 h6
  omega
 injection h1 with _ h5 h6
 omega
def bldQ (w : World) (B b : Nat) : Nat → Prop := fun q => B ≤ q ∧ (q = b ∨ ∃ cs z, w.heap[q]? = some (.cells cs 5 z))
theorem zph {w w' : World} {B b : Nat} (hb : Below B w w') (ho : OthersKept 5 (some b) w w') : Kp w w' (bldQ w B b) := ⟨hb.os, hb.tape, hb.output, hb.size, fun k hk hn => by
 by_cases hkB : k < B
 ·exact hb.block k hkB
 obtain ⟨o, ho'⟩ : ∃ o, w.heap[k]? = some o := ⟨w.heap[k], Array.getElem?_eq_getElem hk⟩
 rw [ho']
 exact ho k o ho' (fun e => hn ⟨OM, .inl (by injection e)⟩) (fun c fz e => hn ⟨OM, .inr ⟨c, fz, by rw [ho', e]⟩⟩)⟩
theorem zkT {w : World} {B b q : Nat} {T : TypeId} {cs : List Value} (h : VarK w q T cs) (hT : T ≠ 5) (hne : q ≠ b) : ¬ bldQ w B b q := fun ⟨_, e⟩ => by
 rcases e with e | ⟨cs', z, e⟩
 ·exact hne e
 unfold VarK at h
 rw [h] at e
 injection e with e
 injection e with _ e
 exact hT e
theorem zrS {w : World} {B b : Nat} {l : List UInt8} (h : Bld w B b l) : b < w.heap.size := by
 rcases h with ⟨_, v, hb, _⟩ | ⟨_, v, hb, _⟩ <;> exact zbD hb
theorem znP {a w w' : World} {c : Nat → Prop} {B b : Nat} (h : Kp a w c) (k : Kp w w' (bldQ w B b)) (hB : a.heap.size ≤ B) : Kp a w' c :=
 h.trans k fun q hq e => by have := e.1; omega
structure Pr where
 p : Pst
 h : Sl
instance : Inhabited Pr := ⟨⟨⟨0, []⟩, ⟨none, 0, 0⟩⟩⟩
def prC (x : Pr) : List Value := [.int .i64 x.p.doc, .slice x.h.a x.h.n x.h.c]
theorem lenPr (x : Pr) : (prC x).length = 2 := rfl
theorem zrO : (Tryz.prog.info? 44).map (fun i => (i.zero, i.size, i.bytes)) = some (some (.agg #[.int .i64 0, .slice none 0 0]), 2, 32) := by kernel_rfl
theorem tyP : RowTy 37 44 prC 2 32 := ⟨Tryz.underlying37, ⟨_, zrO, rfl⟩, by decide, lenPr, fun x => yaF.1 (by rfl)⟩
theorem ztg {w : World} {s : Sl} {l : List Int} (h : RowI w s.v l) (h0 : 0 < l.length) : ∃ g o, s.a = some ⟨g, o, none⟩ ∧ At w g o (l.flatMap inC) := by
 obtain ⟨a, c, e, hr⟩ := h
 obtain ⟨g, o, e2, _, hat⟩ := hr h0
 injection e with e3
 exact ⟨g, o, e3.trans e2, hat⟩
structure RdP (w : World) (v : Value) (lx : List Pr) : Prop where
 row : RowO w v prC lx
 pl : ∀ x ∈ lx, RowI w x.h.v x.p.places
 cap : CapK v
 plc : ∀ x ∈ lx, CapK x.h.v
theorem RdP.keep {w w' : World} {v : Value} {lx : List Pr} (h : RdP w v lx) (k : Kp w w' n_) : RdP w' v lx := ⟨h.row.keep k, fun x hx => (h.pl x hx).keep k, h.cap, h.plc⟩
def RowP (w : World) (v : Value) (l : List Pst) : Prop := ∃ lx, lx.map (·.p) = l ∧ RdP w v lx
theorem RowP.keep {w w' : World} {v : Value} {l : List Pst} (h : RowP w v l) (k : Kp w w' n_) : RowP w' v l := let ⟨lx, h1, h2⟩ := h; ⟨lx, h1, h2.keep k⟩
structure OwP (w : World) (B : Nat) (v : Value) (lx : List Pr) : Prop where
 row : OwnR 44 prC 2 w B v lx
 pl : ∀ x ∈ lx, OwnI w B x.h.v x.p.places
def DP : List TypeId := [3, 44]
theorem OwP.rd {w : World} {B : Nat} {v : Value} {lx : List Pr} (h : OwP w B v lx) : RdP w v lx := ⟨own_rowO h.row, fun x hx => own_rowO (h.pl x hx), own_capK h.row, fun x hx => own_capK (h.pl x hx)⟩
theorem OwP.keepT {w w' : World} {c : Nat → Prop} {B : Nat} {v : Value} {lx : List Pr} (h : OwP w B v lx) (k : Kp w w' c) (hc : ∀ q, q < w.heap.size → c q → notD DP w q) : OwP w' B v lx :=
 ⟨zad h.row k hc (by decide), fun x hx => zad (h.pl x hx) k hc (by decide)⟩
theorem OwP.keep {w w' : World} {B : Nat} {v : Value} {lx : List Pr} (h : OwP w B v lx) (k : Kp w w' n_) : OwP w' B v lx := h.keepT k zfR
theorem OwP.base {w : World} {B B' : Nat} {v : Value} {lx : List Pr} (h : OwP w B v lx) (hB : B' ≤ B) : OwP w B' v lx := ⟨own_base h.row hB, fun x hx => own_base (h.pl x hx) hB⟩
def OwnP (w : World) (B : Nat) (v : Value) (l : List Pst) : Prop := ∃ lx, lx.map (·.p) = l ∧ OwP w B v lx
theorem OwnP.row {w : World} {B : Nat} {v : Value} {l : List Pst} (h : OwnP w B v l) : RowP w v l := let ⟨lx, h1, h2⟩ := h; ⟨lx, h1, h2.rd⟩
theorem OwnP.keepT {w w' : World} {c : Nat → Prop} {B : Nat} {v : Value} {l : List Pst} (h : OwnP w B v l) (k : Kp w w' c) (hc : ∀ q, q < w.heap.size → c q → notD DP w q) : OwnP w' B v l := let ⟨lx, h1, h2⟩ := h; ⟨lx, h1, h2.keepT k hc⟩
theorem OwnP.keep {w w' : World} {B : Nat} {v : Value} {l : List Pst} (h : OwnP w B v l) (k : Kp w w' n_) : OwnP w' B v l := h.keepT k zfR
theorem OwnP.base {w : World} {B B' : Nat} {v : Value} {l : List Pst} (h : OwnP w B v l) (hB : B' ≤ B) : OwnP w B' v l := let ⟨lx, h1, h2⟩ := h; ⟨lx, h1, h2.base hB⟩
theorem OwnP.shape {w : World} {B : Nat} {v : Value} {l : List Pst} (h : OwnP w B v l) : ∃ a c, v = .slice a l.length c := by
 obtain ⟨lx, h1, h2⟩ := h
 obtain ⟨a, c, e⟩ := zab h2.row
 exact ⟨a, c, by rw [e, ← h1, yaf]⟩
theorem ownP_nil (w : World) (B : Nat) : OwnP w B (.slice none 0 0) [] := ⟨[], rfl, ⟨⟨rfl, .inl ⟨rfl, rfl⟩⟩, fun x h => by cases h⟩⟩
section
variable {w : World}
theorem zlB {v : Value} (l : List Int) (low : Int) (hv : RowI w v l) (hl : l.length ≤ 17592186044416) (hlow : -9223372036854775808 ≤ low ∧ low ≤ 9223372036854775807) : Calls Tryz.prog 238 #[v, .int .i64 low] w fun e w' => e = .returned (.bool (risesB low l)) ∧ Kp w w' n_ := by
 obtain ⟨a, ca, rfl, hra⟩ := hv
 refine zaa (args := [.slice a l.length ca, .int .i64 low]) Tryz.func238 rfl NL ?_; refine GW ?_
 refine Yc (ι := Nat × Int) (fun i => [(1, .int .i64 i.2), (7, .slice a l.length ca), (8, .int .i64 (l.length : Nat)), (9, .int .i64 (i.1 : Nat))])
  (fun i wr => Kp w wr n_ ∧ i.1 ≤ l.length ∧ risesB low l = risesB i.2 (l.drop i.1) ∧ -9223372036854775808 ≤ i.2 ∧ i.2 ≤ 9223372036854775807) (fun i => l.length - i.1) (0, low) FR ⟨Yb _ _, yal _, rfl, hlow⟩ ?_
 rintro ⟨i, lo⟩ gg wr ⟨hK, hi, ht, hlo⟩
 dsimp only at hi ht hlo ⊢
 refine GW ?_
 by_cases hlt : i < l.length
 ·obtain ⟨ga, oa, rfl, hga, hata⟩ := hra OM
  have ca := zaJ hata hlt
  rw [yat hlt, risesB] at ht
  by_cases h1 : l[i] < lo
  ·refine KGO ?_
   exact ⟨ret_bool (by rw [ht, decide_eq_false OM]; rfl), hK⟩
  by_cases h2 : 1099511627776 < l[i]
  ·refine KGO ?_
   exact ⟨ret_bool (by rw [ht, decide_eq_false OM]; rfl), hK⟩
  refine KGO ?_
  exact ⟨(i + 1, l[i] + 1), FR, ⟨hK, DO, by rw [ht, decide_eq_true OM]; rfl, DO⟩, DO⟩
 refine KGO ?_
 rw [yaP OM] at ht
 exact ⟨ret_bool (by rw [ht]; rfl), hK⟩
theorem znm {v : Value} (lx : List Pr) (hv : RdP w v lx) (hl : lx.length ≤ 1000000000000) : Calls Tryz.prog 105 #[v] w fun e w' => ∃ v', e = .returned v' ∧ OwnI w' w.heap.size v' (lx.map (·.p.doc)) ∧ Kp w w' n_ := by
 obtain ⟨⟨a, ca, rfl, hra⟩, _, _, _⟩ := hv
 refine zaa (args := [.slice a lx.length ca]) Tryz.func105 rfl NL ?_; refine GW ?_
 refine Yc (ι := Nat × Value) (fun i => [(3, i.2), (6, .slice a lx.length ca), (7, .int .i64 (lx.length : Nat)), (8, .int .i64 (i.1 : Nat))])
  (fun i wr => Kp w wr n_ ∧ i.1 ≤ lx.length ∧ OwnI wr w.heap.size i.2 ((lx.take i.1).map (·.p.doc))) (fun i => lx.length - i.1) (0, .slice none 0 0) FR ⟨Yb _ _, yal _, World.ownsRow_nil _ _ _ _⟩ ?_
 rintro ⟨i, vo⟩ gg wr ⟨hK, hi, ho⟩
 dsimp only at hi ho ⊢
 obtain ⟨ao, co, rfl⟩ := zab ho
 have hzr := hK.size
 refine GW ?_
 by_cases hlt : i < lx.length
 ·obtain ⟨ga, oa, rfl, hga, hata⟩ := hra OM
  refine KGO ?_
  refine Yg (vs := prC lx[i]) (by rfl) rfl (zak (by rfl)) ?_
  obtain ⟨a_b1, k_w1, z_w1⟩ := new3 wr 44 (prC lx[i])
  generalize wr.alloc (.cells (List.toArray (prC lx[i])) 44) = w1 at *
  generalize hs_b1 : wr.heap.size = b1 at *
  refine KGO ?_
  refine Ye (bs1I lx[i].p.doc _) ?_
  obtain ⟨a_b2, v_b2, k_w2, z_w2, r_w2⟩ := new5 w1 3 (inC lx[i].p.doc)
  generalize w1.alloc (.cells (List.toArray (inC lx[i].p.doc)) 3) = w2 at *
  generalize hs_b2 : w1.heap.size = b2 at *
  refine KGO ?_
  refine tyI.app1 lx[i].p.doc (own_keep0 (own_keep0 ho k_w1) k_w2) OM a_b2 (by rw [yaf, yar]; omega) (by rw [yaf, yar]; omega) fun v3 w3 o3 k3 => ?_
  have J3 := zav (own_keep0 (own_keep0 ho k_w1) k_w2) k3 (hK.trans0 (k_w1.trans0 k_w2)) (yag _)
  obtain ⟨a3, c3, rfl⟩ := zab o3
  refine KGO ?_
  exact ⟨(i + 1, _), FR, ⟨J3, DO, by rw [yad hlt, yaL]; exact o3⟩, DO⟩
 refine KGO ?_
 obtain rfl : i = lx.length := OM
 rw [yaD] at ho
 exact ⟨_, rfl, by rw [yaD]; exact ho, hK⟩
theorem zqJ {v : Value} (l : List Pst) (hv : RowP w v l) (hl : l.length ≤ 1000000000000) (hpn : ∀ p ∈ l, p.places.length ≤ 17592186044416) : Calls Tryz.prog 205 #[v] w fun e w' => e = .returned (.bool (zan l)) ∧ Kp w w' n_ := by
 obtain ⟨lx, rfl, hv⟩ := hv
 rw [yaf] at hl
 have hpn : ∀ x ∈ lx, x.p.places.length ≤ 17592186044416 := fun x hx => hpn x.p (yax hx)
 have hv0 := hv
 obtain ⟨⟨a, ca, rfl, hra⟩, hpl, _, _⟩ := hv
 refine zaa (args := [.slice a lx.length ca]) Tryz.func205 rfl NL ?_; refine GW ?_
 refine Yc (ι := Nat) (fun i => [(0, .slice a lx.length ca), (5, .slice a lx.length ca), (6, .int .i64 (lx.length : Nat)), (7, .int .i64 (i : Nat))])
  (fun i wr => Kp w wr n_ ∧ i ≤ lx.length ∧ ∀ x ∈ lx.take i, okPl x.p = true) (fun i => lx.length - i) 0 FR ⟨Yb _ _, yal _, by simp⟩ ?_
 rintro i gg wr ⟨hK, hi, ht⟩
 refine GW ?_
 by_cases hlt : i < lx.length
 ·obtain ⟨ga, oa, rfl, hga, hata⟩ := hra OM
  have hpi := (hpl lx[i] (yak hlt)).keep hK
  have hno : okPl lx[i].p = false → zan (lx.map (·.p)) = false := fun h => by
   unfold zan
   rw [ybZ.2 ⟨lx[i].p, yax (yak hlt), by rw [h]; decide⟩]; rfl
  have hn := Yl hpi
  refine KGO ?_
  refine Yg (vs := prC lx[i]) (by rfl) rfl (zak (by rfl)) ?_
  obtain ⟨a_b1, k_w1, z_w1⟩ := new3 wr 44 (prC lx[i])
  generalize wr.alloc (.cells (List.toArray (prC lx[i])) 44) = w1 at *
  generalize hs_b1 : wr.heap.size = b1 at *
  have J1 := hK.trans0 k_w1
  refine KGO ?_
  rw [hn]
  by_cases h0 : lx[i].p.places.length = 0
  ·refine KGO ?_
   exact ⟨ret_bool (hno (by unfold okPl; rw [List.eq_nil_of_length_eq_zero h0]; rfl)).symm, J1⟩
  refine KGO ?_
  refine Ya (Tryz.call238 _ _) (zlB (w := w1) lx[i].p.places 0 (hpi.keep k_w1) (hpn _ (yak hlt)) OM) ?_
  rintro e w2 ⟨rfl, k2⟩
  have J2 := J1.trans0 k2
  have hok : okPl lx[i].p = risesB 0 lx[i].p.places := by
   unfold okPl
   rw [show lx[i].p.places.isEmpty = false from by cases h : lx[i].p.places with | nil => rw [h] at h0; exact absurd rfl h0 | cons => rfl]; rfl
  rw [← hok]
  refine RT ?_
  cases hq : okPl lx[i].p with
  | false =>
   refine KGO ?_
   exact ⟨ret_bool (hno hq).symm, J2⟩
  | true =>
   refine KGO ?_
   exact ⟨i + 1, FR, ⟨J2, OM, fun x hx => by
    rw [yad hlt, yaj, yac] at hx
    rcases hx with hx | rfl
    ·exact ht x hx
    exact hq⟩, DO⟩
 rw [yaz OM] at ht
 refine KGO ?_
 refine Ya (Tryz.call105 _ _) (znm (w := wr) lx (hv0.keep hK) hl) ?_
 rintro e w1 ⟨v1, rfl, o1, k1⟩
 obtain ⟨a1, c1, rfl⟩ := zab o1
 refine RT ?_
 refine Ya (Tryz.call238 _ _) (zlB (w := w1) (lx.map (·.p.doc)) 1 (own_rowO o1) (by rw [yaf]; omega) OM) ?_
 rintro e w2 ⟨rfl, k2⟩
 refine RT ?_
 exact ⟨ret_bool (by
  unfold zan
  rw [yaF.2 (fun p hp => by obtain ⟨x, hx, rfl⟩ := yay.1 hp; exact ht x hx), ybe]; rfl), (hK.trans0 k1).trans0 k2⟩
theorem zhT {b B : Nat} {pre : List UInt8} (n : Nat) (hb : Bld w B b pre) (hn : n < 2 ^ 63) (hsz : pre.length + (numE n).length ≤ 140737488355328) (hB : B ≤ w.heap.size) :
  Calls Tryz.prog 206 #[.int .i64 (n : Nat), .pointer (some ⟨b, 0, none⟩)] w fun e w' => e = .returned (.tuple #[]) ∧ Bld w' B b (pre ++ numE n) ∧ Kp w w' (bldQ w B b) := by
 refine zaa (args := [.int .i64 (n : Nat), .pointer (some ⟨b, 0, none⟩)]) Tryz.func206 rfl NL ?_; refine GW ?_
 refine Ya (Tryz.call67 _ _) (zfU n hn) ?_
 rintro e w1 ⟨rfl, k1⟩
 refine RT ?_
 have hln := zap hn
 have hsz2 : (str (numE n)).size = (numE n).length := rfl
 refine Ya (Tryz.call66 _ _) (zaP (str (numE n)) w1 (zbb hb k1) (by rw [hsz2]; omega) (yaw hB k1.size)) ?_
 rintro e w2 ⟨rfl, hb2, hbe, hok⟩
 refine RT ?_
 have k2 := zph hbe hok
 exact ⟨rfl, hb2, ⟨k2.os.trans k1.os, k2.tape.trans k1.tape, k2.output.trans k1.output, yaw k1.size k2.size, fun q hq hn => (k2.block q (ybv hq k1.size) fun e => hn ⟨e.1, e.2.imp id fun ⟨cs, z, h⟩ => ⟨cs, z, (k1.block q hq id).symm.trans h⟩⟩).trans (k1.block q hq id)⟩⟩
theorem zdZ {v : Value} (l : List Pst) (hv : RowP w v l) (hl : l.length ≤ 1000000000000) (hpn : ∀ p ∈ l, p.places.length ≤ 17592186044416) (hsz : 9 * (encN 0 l).length + 9 ≤ 140737488355328) :
  Calls Tryz.prog 142 #[v] w fun e w' => e = .returned (.string (str (encP l))) ∧ Kp w w' n_ := by
 have hv0 := hv
 obtain ⟨lx, rfl, hv⟩ := hv
 rw [yaf] at hl
 obtain ⟨⟨a, ca, rfl, hra⟩, hpl, _, _⟩ := hv
 refine zaa (args := [.slice a lx.length ca]) Tryz.func142 rfl NL ?_; refine GW ?_
 refine Ya (Tryz.call205 _ _) (zqJ (w := w) (lx.map (·.p)) hv0 (by rw [yaf]; exact hl) hpn) ?_
 rintro e w1 ⟨rfl, k1⟩
 refine RT ?_
 cases hq : zan (lx.map (·.p)) with
 | false =>
  refine KGO ?_
  exact ⟨by unfold encP; rw [hq]; rfl, k1⟩
 | true =>
 refine KGO ?_
 have hb0 := zex w1 w1.heap.size (yag _)
 have K0 : Kp w1 (w1.alloc (.cells #[.pointer none, .slice none 0 0] 93)) n_ := (Yb _ _).alloc _
 generalize w1.alloc (.cells #[.pointer none, .slice none 0 0] 93) = w2 at *
 generalize hs_b : w1.heap.size = b at *
 have hr := zbL.1 hq
 have hdl := zfj hq
 refine KGO ?_
 have hK0 : ∀ u u', Kp u u' (bldQ u b b) → Kp w1 u n_ → Kp w1 u' n_ := fun u u' h k => znP k h OM
 have hel := zcT (lx.map (·.p))
 have het := zcz hq
 rw [yaf] at het
 obtain ⟨tot, htot⟩ : ∃ t, encP (lx.map (·.p)) = t := ⟨_, rfl⟩
 rw [htot] at hel het
 have hzz : ∀ u, Kp w1 u n_ → b ≤ u.heap.size := fun u k => by have := k.size; omega
 have hlen2 : (numE lx.length).length ≤ tot.length := by rw [het, yaa]; omega
 refine Ya (Tryz.call206 _ _) (zhT (w := w2) lx.length hb0 OM (by simp; omega) (hzz _ K0)) ?_
 rintro e w3 ⟨rfl, hb3, hk3⟩
 have J3 : Kp w1 w3 n_ := hK0 _ _ hk3 K0
 clear hb0 hk3 hlen2
 refine RT ?_
 refine Yc (ι := Nat × Int) (fun i => [(3, .pointer (some ⟨b, 0, none⟩)), (4, .func (.func 206) #[] #[.pointer (some ⟨b, 0, none⟩)]), (5, .int .i64 i.2), (19, .slice a lx.length ca), (20, .int .i64 (lx.length : Nat)), (21, .int .i64 (i.1 : Nat))])
  (fun i wr => Kp w1 wr n_ ∧ i.1 ≤ lx.length ∧ 0 ≤ i.2 ∧ i.2 ≤ 1099511627776 ∧ risesB i.2 ((lx.drop i.1).map (·.p.doc)) = true ∧ ∃ pre, Bld wr b b pre ∧ pre ++ (encN i.2 ((lx.drop i.1).map (·.p))).flatMap numE = tot) (fun i => lx.length - i.1) (0, 0)
  ⟨rfl, by simp [upd], rfl, rfl, rfl, rfl, trivial⟩ ⟨J3, yal _, by decide, by decide, by have := rises_mono hr.2 (show (0 : Int) ≤ 1 by decide); rw [ybe] at this; exact this, _, hb3, het.symm⟩ ?_
 rintro ⟨i, d⟩ gg wr ⟨hK, hi, hd0, hdm, hrs, pre, hbr, hpre⟩
 dsimp only at hi hd0 hdm hrs hpre ⊢
 refine GW ?_
 by_cases hlt : i < lx.length
 rotate_left
 ·refine KGO ?_
  rw [yaP OM] at hpre
  refine Ya (Tryz.call71 _ _) (zdo wr hbr (hzz _ hK)) ?_
  rintro e w4 ⟨rfl, hb4, hbe4, _⟩
  refine RT ?_
  exact ⟨by rw [htot, ← hpre]; simp [encN], (k1.trans0 hK).below' hbe4 (by have := k1.size; omega)⟩
 obtain ⟨ga, oa, rfl, hga, hata⟩ := hra OM
 have hpi := (hpl lx[i] (yak hlt)).keep (k1.trans0 hK)
 have hri := hr.1 lx[i].p (yax (yak hlt))
 have hpni := hpn lx[i].p (yax (yak hlt))
 rw [yat hlt, yas] at hrs hpre
 rw [risesB, yaq, decide_eq_true_eq] at hrs
 rw [encN] at hpre
 obtain ⟨⟨h1, h2⟩, hrs⟩ := hrs
 have hKw := k1.trans0 hK
 have hn : lx[i].h.n = lx[i].p.places.length := Yl hpi
 have hbl := zrS hbr
 refine KGO ?_
 have v_b4 := Yk wr 44 (prC lx[i])
 refine Yg (vs := prC lx[i]) (by rfl) rfl (zak (by rfl)) ?_
 obtain ⟨a_b4, k_w4, z_w4⟩ := new3 wr 44 (prC lx[i])
 generalize wr.alloc (.cells (List.toArray (prC lx[i])) 44) = w4 at *
 generalize hs_b4 : wr.heap.size = b4 at *
 unfold prC at v_b4
 rw [hn] at v_b4
 have a_b4 := v_b4.at
 have K4 := hK.trans0 k_w4
 have hzr := hzz _ hK
 refine KGO ?_
 have e1 : lx[i].p.doc - d = (((lx[i].p.doc - d).toNat : Nat) : Int) := OM
 rw [e1]
 have hle := congrArg List.length hpre
 simp only [yao, yaa] at hle
 refine Ya (Tryz.call206 _ _) (zhT (w := w4) (lx[i].p.doc - d).toNat (zbb hbr k_w4) OM OM (hzz _ K4)) ?_
 rintro e w5 ⟨rfl, hb5, hk5⟩
 have K5 : Kp w1 w5 n_ := hK0 _ _ hk5 K4
 have v_b4 := v_b4.keep hk5 (zkT v_b4 (by decide) OM)
 have a_b4 := v_b4.at
 clear hk5 hbr
 refine RT ?_
 refine KGO ?_
 refine Ya (Tryz.call206 _ _) (zhT (w := w5) lx[i].p.places.length hb5 OM (by rw [yaa]; omega) (hzz _ K5)) ?_
 rintro e w6 ⟨rfl, hb6, hk6⟩
 have K6 : Kp w1 w6 n_ := hK0 _ _ hk6 K5
 have v_b4 := v_b4.keep hk6 (zkT v_b4 (by decide) OM)
 have a_b4 := v_b4.at
 clear hk6 hb5
 refine RT ?_
 refine KGO ?_
 have hdf := difs_len lx[i].p.places 0
 obtain ⟨REST, hR⟩ : ∃ R, (encN lx[i].p.doc ((lx.drop (i + 1)).map (·.p))).flatMap numE = R := ⟨_, rfl⟩
 rw [yao, yao, yaC, hR, ← yap, ← yap] at hpre
 refine Yc (ι := Nat × Int) (fun j => [(3, .pointer (some ⟨b, 0, none⟩)), (4, .func (.func 206) #[] #[.pointer (some ⟨b, 0, none⟩)]), (5, .int .i64 lx[i].p.doc), (8, .int .i64 j.2), (19, .slice (some ⟨ga, oa, none⟩) lx.length ca), (20, .int .i64 (lx.length : Nat)), (21, .int .i64 (i : Nat)),
   (39, .slice lx[i].h.a lx[i].p.places.length lx[i].h.c), (40, .int .i64 (lx[i].p.places.length : Nat)), (41, .int .i64 (j.1 : Nat))])
  (fun j wr => Kp w1 wr n_ ∧ j.1 ≤ lx[i].p.places.length ∧ 0 ≤ j.2 ∧ j.2 ≤ 1099511627776 ∧ risesB j.2 (lx[i].p.places.drop j.1) = true ∧ ∃ pre, Bld wr b b pre ∧ pre ++ ((difs j.2 (lx[i].p.places.drop j.1)).flatMap numE ++ REST) = tot) (fun j => lx[i].p.places.length - j.1) (0, 0)
  FR ⟨K6, yal _, by decide, by decide, hri.2, _, hb6, hpre⟩ ?_
 clear hb6 hpre hle K6 v_b4 a_b4 hbl pre
 rintro ⟨j, at_⟩ gg2 wq ⟨hQ, hj, ha0, ham, hrj, pre, hbr, hpre⟩
 dsimp only at hj ha0 ham hrj hpre ⊢
 have hbl := zrS hbr
 refine GW ?_
 by_cases hlj : j < lx[i].p.places.length
 ·obtain ⟨gp, op, hgp, hpt⟩ := ztg (hpl lx[i] (yak hlt)) OM
  rw [hgp]
  have cj := zaJ hpt hlj
  rw [yat hlj] at hrj hpre
  rw [risesB, yaq, decide_eq_true_eq] at hrj
  rw [difs, yao, yap, ← yap] at hpre
  obtain ⟨⟨h3, h4⟩, hrj⟩ := hrj
  have hle := congrArg List.length hpre
  simp only [yaa] at hle
  have hQw := k1.trans0 hQ
  clear hata hra hpl
  refine KGO ?_
  have e1 : lx[i].p.places[j] - at_ = (((lx[i].p.places[j] - at_).toNat : Nat) : Int) := OM
  rw [e1]
  refine Ya (Tryz.call206 _ _) (zhT (w := wq) (lx[i].p.places[j] - at_).toNat hbr OM OM (hzz _ hQ)) ?_
  rintro e w5 ⟨rfl, hb5, hk5⟩
  have Q5 : Kp w1 w5 n_ := hK0 _ _ hk5 hQ
  clear hk5 hbr
  refine RT ?_
  refine KGO ?_
  exact ⟨(j + 1, lx[i].p.places[j]), FR, ⟨Q5, DO, DO, DO, rises_mono hrj OM, _, hb5, hpre⟩, DO⟩
 refine KGO ?_
 rw [yaP OM] at hpre
 rw [← hR] at hpre
 exact ⟨(i + 1, lx[i].p.doc), FR, ⟨hQ, DO, DO, DO, rises_mono hrs OM, pre, hbr, by simpa [difs] using hpre⟩, DO⟩
end
end Go.Proofs.YtennokckmjcefaaGreatDoor
