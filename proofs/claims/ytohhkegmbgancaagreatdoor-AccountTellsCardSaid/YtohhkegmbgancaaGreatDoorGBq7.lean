/- Helper text of this claim: lemmas and contracts that the proved statement rests on; no conditions of its own. -/
import Derived.Test.YtohhkegmbgancaaGreatDoorGBq5
namespace Go.Proofs.YtohhkegmbgancaaGreatDoor
set_option maxHeartbeats 8000000
open Go.RowKit Go.Pw Go.Vc Go.Cs Go.Lib
set_option linter.unusedVariables false
set_option maxRecDepth 100000
section
variable {w w' : World}
theorem zbF {w : World} {K : Value → World → Prop} {B : Nat} {v : Value} {l : List Bx} {cs : Array Bool} (h : OwnB w B v l) (hB : B ≤ w.heap.size) (x : Bx) (hl : l.length ≤ 1000000000)
  (k : ∀ v' w', OwnB w' B v' (l ++ [x]) → (w.alloc (.cells (boxCells x).toArray 74)).grownBy w' v.ownBlock → K v' w') :
  RunN Tryz.prog (builtin .append #[31, 31] 31 cs [v, .slice (some ⟨w.heap.size, 0, none⟩) 1 1].toArray) (w.alloc (.cells (boxCells x).toArray 74)) K := by
 refine RunN.app Tryz.underlying31 boxInfo rfl (by decide) (zaf h ((Kp.refl _ _).alloc _)) (Nat.le_trans hB ((Kp.refl w n_).alloc _).size) ⟨w.heap.size, 0, none⟩ 1 1 (boxCells x) rfl (zfl _ _ _) (boxOne x) (by omega) (by omega) fun v' w' h2 h3 => k v' w' ?_ h3
 unfold OwnB
 rw [List.length_append, List.flatMap_append]
 simpa using h2
theorem zbh {w : World} {K : Value → World → Prop} {B m c : Nat} {v : Value} {l r : List Bx} {cs : Array Bool} (a : Addr) (h : OwnB w B v l) (hB : B ≤ w.heap.size) (hm : m = r.length) (hr : 0 < m → ∃ g o, a = ⟨g, o, none⟩ ∧ At w g o (r.flatMap boxCells)) (hl : l.length + r.length ≤ 1000000000)
  (k : ∀ v' w', OwnB w' B v' (l ++ r) → w.grownBy w' v.ownBlock → K v' w') :
  RunN Tryz.prog (builtin .append #[31, 31] 31 cs [v, .slice (some a) m c].toArray) w K := by
 subst hm
 refine RunN.app Tryz.underlying31 boxInfo rfl (by decide) h hB a r.length c (r.flatMap boxCells) (zaC boxCells 4 boxLen r) (fun j u hj => ?_) (boxesOne r) (by omega) (by omega) fun v' w' h2 h3 => k v' w' ?_ h3
 ·rcases Nat.eq_zero_or_pos r.length with h0 | h0
  ·rw [List.eq_nil_of_length_eq_zero h0] at hj; simp at hj
  ·obtain ⟨g, o, rfl, hat⟩ := hr h0
   rw [add_none]
   exact hat j u hj
 ·unfold OwnB
  rw [List.length_append, List.flatMap_append]
  exact h2
theorem zlx {w : World} {K : Value → World → Prop} {B : Nat} {v : Value} {l : List Bx} {cs : Array Bool} (h : OwnB w B v l) (k : K v w) :
  RunN Tryz.prog (builtin .append #[31, 31] 31 cs [v, .slice none 0 0].toArray) w K := by
 obtain ⟨i, hi, _⟩ := zaV boxInfo
 exact RunN.append_none B 74 i 4 Tryz.underlying31 hi v _ _ h k
theorem zhV {g o : Nat} {l : List Bx} (h : At w g o (l.flatMap boxCells)) (i : Nat) : At w g (o + i * 4) ((l.drop i).flatMap boxCells) := fun j u hj => by
 rw [← zaZ boxCells 4 boxLen, List.getElem?_drop] at hj
 rw [Nat.add_assoc]
 exact h _ u hj
theorem znU {g o : Nat} {l : List Bx} (h : At w g o (l.flatMap boxCells)) (i : Nat) : At w g o ((l.take i).flatMap boxCells) := fun j u hj => by
 rw [← zaQ boxCells 4 boxLen] at hj
 refine h j u ?_
 rw [List.getElem?_take] at hj
 split at hj
 ·exact hj
 ·cases hj
theorem zmg {f : Fr} {x : Operand} {A : Addr} {c : Nat} {w : World} {K : Value → World → Prop} (hx : ev f x = .int .i64 0) (k : ∀ A', K (.slice (some A') 0 c) w) : RunV Tryz.prog (Instr.sliceAt 31 (.slice (some A) 0 c) ((some x).map (ev f)) none none) w K := by
 obtain ⟨i, hi, _, hs, _⟩ := zaV boxInfo
 by_cases hc : c = 0
 ·subst hc
  exact RunV.of (by simp [Instr.sliceAt, hx, Instr.slice, Instr.sliceBounds, go_sem, zaG Tryz.underlying31]) (k A)
 ·exact RunV.of (by simp [Instr.sliceAt, hx, Instr.slice, Instr.sliceBounds, go_sem, zaG Tryz.underlying31, zbf hi]) (k (A.add 0))
def CapOk (v : Value) : Prop := ∀ a n c, v = .slice a n c → n ≤ c ∧ (a = none → c = 0)
theorem zoT {v : Value} (l : List Bx) (id : Int) (hv : RowB w v l) (hcp : CapOk v) (hl : l.length ≤ 1000) (hs : SmallB l) :
  Calls Tryz.prog 170 #[v, .int .i64 id] w fun e w' => ∃ v', e = .returned (.tuple #[v', .int .i64 ((dropL l id).2 : Nat)]) ∧ OwnB w' w.heap.size v' (dropL l id).1 ∧ Kp w w' n_ := by
 have hv0 := hv
 obtain ⟨a, cap, rfl, hr⟩ := hv
 obtain ⟨hcap, hcap0⟩ := hcp _ _ _ rfl
 refine zaa (args := [.slice a l.length cap, .int .i64 id]) Tryz.func170 rfl NL ?_; refine GW ?_
 refine CallS.of (Tryz.call105 _ _) (zet (w := w) l hv0 hl hs) ?_
 rintro e w1 ⟨rfl, k1⟩
 refine RT ?_
 by_cases h1 : rightL l = true
 rotate_left
 ·rw [show rightL l = false by simpa using h1]
  refine KGO ?_
  exact ⟨zam (R := dropL l id) 1 (by unfold dropL; rw [if_pos h1]) k1⟩
 rw [h1]
 have hR := (zaE l).1 h1
 have g1 : ¬ ¬ rightL l = true := fun h => h h1
 refine KGO ?_
 refine CallS.of (Tryz.call107 _ _) (zcF (w := w1) l id (hv0.keep k1) (by omega)) ?_
 rintro e w2 ⟨rfl, k2⟩
 have K2 := k1.trans0 k2
 refine RT ?_
 cases hb : boxOf l id with
 | none =>
  have hneg := zcs.2 hb
  have hno := zej hb
  refine KGO ?_
  exact ⟨zam (R := dropL l id) 5 (by unfold dropL; rw [if_neg g1, if_pos (by rw [hno]; simp)]) K2⟩
 | some b =>
  obtain ⟨hm, rfl⟩ := zbO hb
  obtain ⟨hk1, hk2, hf⟩ := zbY hb
  have g2 : ¬ ¬ hasId l b.id = true := fun h => h (zgL hb)
  rw [hf]
  generalize findN l b.id = k at *
  obtain ⟨gb, o, rfl, hgb, hat⟩ := hr (by omega)
  refine KGO ?_
  refine Loop.intro (ι := Nat) (fun i => [(0, .slice (some ⟨gb, o, none⟩) l.length cap), (1, .int .i64 b.id), (6, .int .i64 (k : Nat)), (7, .int .i64 (i : Nat))])
   (fun i wr => Kp w wr n_ ∧ i ≤ l.length ∧ ∀ c ∈ l.take i, ¬ c.up = b.id) (fun i => l.length - i) 0 ⟨rfl, rfl, rfl, rfl, trivial⟩ ⟨K2, Nat.zero_le _, by simp⟩ ?_
  rintro i gg wr ⟨hK, hi, hnd⟩
  refine GW ?_
  by_cases hlt : i < l.length
  ·by_cases h8 : l[i].up = b.id
   ·have h3 : (l.any fun c => decide (c.up = b.id)) = true := List.any_eq_true.2 ⟨l[i], List.getElem_mem hlt, by simpa using h8⟩
    refine KGO ?_
    exact ⟨zam (R := dropL l b.id) 20 (by unfold dropL; rw [if_neg g1, if_neg g2, if_pos h3]) hK⟩
   ·refine KGO ?_
    refine ⟨i + 1, ⟨rfl, rfl, rfl, v_int (by simp), trivial⟩, ⟨hK, by omega, ?_⟩, by dsimp only; omega⟩
    rw [List.take_succ_eq_append_getElem hlt]
    intro c hc
    rcases List.mem_append.1 hc with hc | hc
    ·exact hnd c hc
    ·rw [List.mem_singleton.1 hc]; exact h8
  ·have h3 : ¬ (l.any fun c => decide (c.up = b.id)) = true := by
    rw [List.take_of_length_le (by omega)] at hnd
    simpa using hnd
   have hres : dropL l b.id = (delL l b.id, 0) := by unfold dropL; rw [if_neg g1, if_neg g2, if_neg h3]
   clear hnd
   refine KGO ?_
   refine RunV.of (zgH _) ?_
   have o1 : (wr.alloc (.cells #[] 74)).ownsRow wr.heap.size 74 4 (.slice (some ⟨wr.heap.size, 0, none⟩) 0 0) 0 [] := World.ownsRow_made wr #[] 0 (Nat.le_refl _) (by decide) (by simp)
   have o1 : OwnB (wr.alloc (.cells #[] 74)) wr.heap.size (.slice (some ⟨wr.heap.size, 0, none⟩) 0 0) [] := o1
   have k3 : Kp wr (wr.alloc (.cells #[] 74)) n_ := (Kp.refl _ _).alloc _
   have hB : wr.heap.size ≤ (wr.alloc (.cells #[] 74)).heap.size := k3.size
   generalize wr.alloc (.cells #[] 74) = w3 at *
   have hat3 := zac hat (hK.trans0 k3)
   refine KGO ?_
   rw [if_neg (by omega : ¬ 0 = cap)]
   refine zbh (w := w3) ⟨gb, o + 0 * 4, none⟩ (m := k - 0) (c := cap - 0) (l := []) (r := l.take k) o1 hB (by rw [List.length_take]; omega) (fun _ => ⟨_, _, rfl, znU hat3 k⟩) (by rw [List.length_take, List.length_nil]; omega) fun v4 w4 o4 g4 => ?_
   have k4 : Kp wr w4 n_ := k3.own o1 (Nat.le_refl _) g4
   have hat4 := zac hat (hK.trans0 k4)
   rw [List.nil_append] at o4
   obtain ⟨a4, c4, rfl⟩ := zab o4
   have hlt4 : (l.take k).length = k := by rw [List.length_take]; omega
   refine KGO ?_
   rw [show ((k : Nat) : Int) + 1 = ((k + 1 : Nat) : Int) by omega]
   refine Cut.from (by omega) hcap ?_
   refine KGO ?_
   have hfin : ∀ v5 w5, OwnB w5 wr.heap.size v5 (l.take k ++ l.drop (k + 1)) → w4.grownBy w5 (Value.slice a4 (l.take k).length c4).ownBlock → OwnB w5 wr.heap.size v5 (delL l b.id) ∧ Kp w w5 n_ := fun v5 w5 o5 g5 => by
    rw [znK hR.asc hk1 hk2] at o5
    exact ⟨o5, hK.trans0 (k4.own o4 (Nat.le_refl _) g5)⟩
   by_cases hc : k + 1 = cap
   ·rw [if_pos hc]
    refine zbh (w := w4) ⟨gb, o, none⟩ (m := l.length - (k + 1)) (c := cap - (k + 1)) (l := l.take k) (r := l.drop (k + 1)) o4 k4.size (by rw [List.length_drop]) (fun _ => by omega) (by rw [List.length_take, List.length_drop]; omega) fun v5 w5 o5 g5 => ?_
    obtain ⟨o6, k6⟩ := hfin v5 w5 o5 g5
    obtain ⟨a5, c5, rfl⟩ := zab o6
    refine KGO ?_
    exact ⟨zbK (R := dropL l b.id) hres (zaj o6 hK.size) k6⟩
   ·rw [if_neg hc]
    refine zbh (w := w4) ⟨gb, o + (k + 1) * 4, none⟩ (m := l.length - (k + 1)) (c := cap - (k + 1)) (l := l.take k) (r := l.drop (k + 1)) o4 k4.size (by rw [List.length_drop]) (fun _ => ⟨_, _, rfl, zhV hat4 (k + 1)⟩) (by rw [List.length_take, List.length_drop]; omega) fun v5 w5 o5 g5 => ?_
    obtain ⟨o6, k6⟩ := hfin v5 w5 o5 g5
    obtain ⟨a5, c5, rfl⟩ := zab o6
    refine KGO ?_
    exact ⟨zbK (R := dropL l b.id) hres (zaj o6 hK.size) k6⟩
theorem zjj {l : List Bx} {x : Bx} {i : Nat} (h : idxL l x.id = i) : insL l x = l.take i ++ [x] ++ l.drop i := by
 unfold insL; rw [h]; simp
theorem znH {v : Value} (l : List Bx) (up : Int) (nm r : List UInt8) (id : Int) (hv : RowB w v l) (hcp : CapOk v) (hl : l.length ≤ 1000) (hs : SmallB l) (hn : nm.length ≤ 140737488355328) :
  Calls Tryz.prog 46 #[v, .int .i64 up, .string (str nm), .string (str r), .int .i64 id] w fun e w' => ∃ v', e = .returned (.tuple #[v', .int .i64 ((addL l up nm r id).2 : Nat)]) ∧ OwnB w' w.heap.size v' (addL l up nm r id).1 ∧ Kp w w' n_ := by
 have hv0 := hv
 obtain ⟨a, cap, rfl, hr⟩ := hv
 obtain ⟨hcap, hcap0⟩ := hcp _ _ _ rfl
 refine zaa (args := [.slice a l.length cap, .int .i64 up, .string (str nm), .string (str r), .int .i64 id]) Tryz.func46 rfl NL ?_; refine GW ?_
 refine CallS.of (Tryz.call103 _ _) (zgu (w := w) (str nm) (by rw [zav]; omega)) ?_
 rintro e w1 ⟨rfl, K1⟩
 rw [L_str]
 refine RT ?_
 refine KGO ?_
 refine CallS.of (Tryz.call104 _ _) (zmc (w := w1) r) ?_
 rintro e w2 ⟨rfl, j2⟩
 have K2 := K1.trans0 j2
 refine RT ?_
 refine KGO ?_
 refine CallS.of (Tryz.call105 _ _) (zet (w := w2) l (hv0.keep K2) hl hs) ?_
 rintro e w3 ⟨rfl, j3⟩
 have K3 := K2.trans0 j3
 refine RT ?_
 by_cases h1 : rightL l = true
 rotate_left
 ·rw [show rightL l = false by simpa using h1]
  refine KGO ?_
  exact ⟨zam (R := addL l up nm r id) 1 (by unfold addL; rw [if_pos fun h => h1 h.1]) K3⟩
 rw [h1]
 have hR := (zaE l).1 h1
 by_cases h2 : namedB nm = true
 rotate_left
 ·rw [show namedB nm = false by simpa using h2]
  refine KGO ?_
  exact ⟨zam (R := addL l up nm r id) 1 (by unfold addL; rw [if_pos fun h => h2 h.2.1]) K3⟩
 rw [h2]
 by_cases h3 : r ∈ rolesL
 rotate_left
 ·rw [decide_eq_false h3]
  refine KGO ?_
  exact ⟨zam (R := addL l up nm r id) 1 (by unfold addL; rw [if_pos fun h => h3 h.2.2]) K3⟩
 rw [decide_eq_true h3]
 have g1 : ¬ ¬ (rightL l = true ∧ namedB nm = true ∧ r ∈ rolesL) := fun h => h ⟨h1, h2, h3⟩
 by_cases h4 : id < 1
 ·refine KGO ?_
  exact ⟨zam (R := addL l up nm r id) 6 (by unfold addL; rw [if_neg g1, if_pos (.inl h4)]) K3⟩
 by_cases h5 : 1099511627776 < id
 ·refine KGO ?_
  exact ⟨zam (R := addL l up nm r id) 6 (by unfold addL; rw [if_neg g1, if_pos (.inr h5)]) K3⟩
 have g2 : ¬ (id < 1 ∨ 1099511627776 < id) := by omega
 refine KGO ?_
 refine CallS.of (Tryz.call106 _ _) (zpb (w := w3) l r (hv0.keep K3) (by omega)) ?_
 rintro e w4 ⟨rfl, j4⟩
 have K4 := K3.trans0 j4
 have hrs := zkK l r
 obtain ⟨ri, rq, hrq, hrb⟩ : ∃ i q, optV (roleOf l r) = .tuple #[.int .i64 i, .bool q] ∧ q = (roleOf l r).isSome := by
  cases roleOf l r <;> exact ⟨_, _, rfl, rfl⟩
 rw [hrs] at hrb
 rw [hrq]
 clear hrs hrq
 refine RT ?_
 refine KGO ?_
 refine CallS.of (Tryz.call107 _ _) (zcF (w := w4) l id (hv0.keep K4) (by omega)) ?_
 rintro e w5 ⟨rfl, j5⟩
 have K5 := K4.trans0 j5
 refine RT ?_
 cases hbo : boxOf l id with
 | some b =>
  obtain ⟨_, _, hf⟩ := zbY hbo
  rw [hf]
  refine KGO ?_
  exact ⟨zam (R := addL l up nm r id) 4 (by unfold addL; rw [if_neg g1, if_neg g2, if_pos (.inl (zgL hbo))]) K5⟩
 | none =>
  have hneg := zcs.2 hbo
  have hno := zej hbo
  cases rq with
  | true =>
   refine KGO ?_
   exact ⟨zam (R := addL l up nm r id) 4 (by unfold addL; rw [if_neg g1, if_neg g2, if_pos (.inr (of_decide_eq_true hrb.symm))]) K5⟩
  | false =>
   have hrb := of_decide_eq_false hrb.symm
   have g3 : ¬ (hasId l id = true ∨ r ≠ [] ∧ (l.any fun b => decide (b.role = r)) = true) := fun h => h.elim (fun h => by rw [hno] at h; cases h) hrb
   by_cases h6 : 64 ≤ l.length
   ·have h64 := hR.len
    refine KGO ?_
    exact ⟨zam (R := addL l up nm r id) 3 (by unfold addL; rw [if_neg g1, if_neg g2, if_neg g3, if_pos h6]) K5⟩
   by_cases h0 : up = 0
   ·have hup : up = 0 ∨ hasId l up = true := .inl h0
    refine KGO ?_
    have Ky := K5
    have g5 : ¬ ¬ (up = 0 ∨ hasId l up = true) := fun h => h hup
    have hdr := zlC hR hup
    refine CallS.of (Tryz.call108 _ _) (zdS (w := w5) l up (hv0.keep Ky) (by omega)) ?_
    rintro e w7 ⟨rfl, j7⟩
    have K7 := Ky.trans0 j7
    rw [hdr]
    refine RT ?_
    by_cases h7 : 8 ≤ dpt l up
    ·refine KGO ?_
     exact ⟨zam (R := addL l up nm r id) 10 (by unfold addL; rw [if_neg g1, if_neg g2, if_neg g3, if_neg h6, if_neg g5, if_pos h7]) K7⟩
    refine KGO ?_
    refine CallS.of (Tryz.call109 _ _) (zcz (w := w7) l up nm 0 (hv0.keep K7) (by omega) (by have := ((zbj _).1 h2).2.1; omega) hs) ?_
    rintro e w8 ⟨rfl, j8⟩
    have K8 := K7.trans0 j8
    refine RT ?_
    by_cases h8 : takenL l up nm 0 = true
    ·rw [h8]
     refine KGO ?_
     exact ⟨zam (R := addL l up nm r id) 4 (by unfold addL; rw [if_neg g1, if_neg g2, if_neg g3, if_neg h6, if_neg g5, if_neg h7, if_pos h8]) K8⟩
    rw [show takenL l up nm 0 = false by simpa using h8]
    have hres : addL l up nm r id = (insL l ⟨id, up, nm, r⟩, 0) := by unfold addL; rw [if_neg g1, if_neg g2, if_neg g3, if_neg h6, if_neg g5, if_neg h7, if_neg h8]
    clear g1 g2 g3 g5 hdr hrb hup
    refine KGO ?_
    refine Loop.intro (ι := Nat × Option Addr × Nat) (fun p => [(0, .slice a l.length cap), (1, .int .i64 up), (2, .string (str nm)), (3, .string (str r)), (4, .int .i64 id), (16, .slice p.2.1 p.1 p.2.2), (17, .int .i64 (p.1 : Nat))])
     (fun p wr => Kp w8 wr n_ ∧ p.1 ≤ l.length ∧ OwnB wr w8.heap.size (.slice p.2.1 p.1 p.2.2) (l.take p.1) ∧ ∀ b ∈ l.take p.1, b.id < id) (fun p => l.length - p.1) (0, none, 0) ⟨rfl, rfl, rfl, rfl, rfl, rfl, rfl, trivial⟩ ⟨Kp.refl _ _, Nat.zero_le _, World.ownsRow_nil _ _ _ _, by simp⟩ ?_
    rintro ⟨i, ao, co⟩ gg wr ⟨hK, hi, ho, hpre⟩
    dsimp only at hi ho hpre ⊢
    refine GW ?_
    by_cases hstop : ∃ hlt : i < l.length, l[i].id < id
    ·obtain ⟨hlt, hid⟩ := hstop
     obtain ⟨gb, o, rfl, hgb, hat⟩ := hr (by omega)
     have KK := K8.trans0 hK
     refine KGO ?_
     refine RunV.of (zay l[i] _) ?_
     refine GW ?_
     have hlen : (l.take i).length = i := by rw [List.length_take]; omega
     refine zbF (w := wr) (B := w8.heap.size) ho hK.size l[i] (by omega) fun v' w9 o9 g9 => ?_
     have K9 : Kp w8 w9 n_ := (hK.alloc _).own (zaf (w := wr) ho ((Kp.refl _ _).alloc _)) (Nat.le_refl _) g9
     rw [← List.take_succ_eq_append_getElem hlt] at o9
     have hlen2 : (l.take (i + 1)).length = i + 1 := by rw [List.length_take]; omega
     obtain ⟨a9, c9, rfl⟩ := zab o9
     rw [hlen2] at o9 ⊢
     refine KGO ?_
     refine ⟨(i + 1, a9, c9), ⟨rfl, rfl, rfl, rfl, rfl, rfl, v_int (by simp), trivial⟩, ⟨K9, by dsimp only; omega, o9, ?_⟩, by dsimp only; omega⟩
     dsimp only
     rw [List.take_succ_eq_append_getElem hlt]
     intro c hc
     rcases List.mem_append.1 hc with hc | hc
     ·exact hpre c hc
     ·rw [List.mem_singleton.1 hc]; exact hid
    ·have hidx : idxL l id = i := zfi hi hpre fun b hb h => by
      obtain ⟨h1, rfl⟩ := List.getElem?_eq_some_iff.1 hb
      exact hstop ⟨h1, h⟩
     have hres2 : addL l up nm r id = (l.take i ++ [⟨id, up, nm, r⟩] ++ l.drop i, 0) := by rw [hres, zjj (x := ⟨id, up, nm, r⟩) hidx]
     clear hres hpre
     have KK := K8.trans0 hK
     have hlen : (l.take i).length = i := by rw [List.length_take]; omega
     have hfin : ∀ v' w' w9 vo, OwnB w' w8.heap.size v' (l.take i ++ [⟨id, up, nm, r⟩] ++ l.drop i) → OwnB w9 w8.heap.size vo (l.take i ++ [⟨id, up, nm, r⟩]) → Kp w8 w9 n_ → w9.grownBy w' vo.ownBlock → ∃ v'', Ending.returned (.tuple #[v', .int .i64 0]) = .returned (.tuple #[v'', .int .i64 ((addL l up nm r id).2 : Nat)]) ∧ OwnB w' w.heap.size v'' (addL l up nm r id).1 ∧ Kp w w' n_ := fun v' w' w9 vo o k9o k9 g => 
      zbK hres2 (zaj o K8.size) (K8.trans0 (k9.own k9o (Nat.le_refl _) g))
     by_cases hlt : i < l.length
     ·have hge : ¬ l[i].id < id := fun h => hstop ⟨hlt, h⟩
      obtain ⟨gb, o, rfl, hgb, hat⟩ := hr (by omega)
      refine KGO ?_
      refine RunV.of (zaR _ _ _ _ _) ?_
      refine KGO ?_
      refine RunV.of (zay ⟨id, up, nm, r⟩ _) ?_
      refine GW ?_
      refine zbF (w := wr) (B := w8.heap.size) ho hK.size ⟨id, up, nm, r⟩ (by omega) fun v9 w9 o9 g9 => ?_
      have K9 : Kp w8 w9 n_ := (hK.alloc _).own (zaf (w := wr) ho ((Kp.refl _ _).alloc _)) (Nat.le_refl _) g9
      obtain ⟨a9, c9, rfl⟩ := zab o9
      refine KGO ?_
      rw [if_neg (by omega : ¬ i = cap)]
      refine zbh (w := w9) ⟨gb, o + i * 4, none⟩ (m := l.length - i) (c := cap - i) (r := l.drop i) o9 (by have := K9.size; omega) (by rw [List.length_drop]) (fun _ => ⟨_, _, rfl, zhV (zac hat (K8.trans0 K9)) i⟩) (by rw [List.length_append, List.length_drop, hlen, List.length_singleton]; omega) fun v5 w5 o5 g5 => ?_
      have hfin2 := hfin v5 w5 w9 _ o5 o9 K9 g5
      obtain ⟨a5, c5, rfl⟩ := zab o5
      refine KGO ?_
      exact ⟨hfin2⟩
     ·have hi2 : i = l.length := by omega
      rcases a with _ | ⟨ga, oa, sa⟩
      ·obtain rfl := hcap0 rfl
       have hl0 : l = [] := List.eq_nil_of_length_eq_zero (by omega)
       have hi0 : i = 0 := by omega
       subst hl0
       subst hi0
       refine KGO ?_
       refine RunV.of (v := .slice none 0 0) (w' := wr) (zhQ _) ?_
       refine KGO ?_
       refine RunV.of (zaR _ _ _ _ _) ?_
       refine KGO ?_
       refine RunV.of (zay ⟨id, up, nm, r⟩ _) ?_
       refine GW ?_
       refine zbF (w := wr) (B := w8.heap.size) ho hK.size ⟨id, up, nm, r⟩ (by omega) fun v9 w9 o9 g9 => ?_
       have K9 : Kp w8 w9 n_ := (hK.alloc _).own (zaf (w := wr) ho ((Kp.refl _ _).alloc _)) (Nat.le_refl _) g9
       obtain ⟨a9, c9, rfl⟩ := zab o9
       refine KGO ?_
       refine zlx o9 ?_
       have o5 := o9
       have g5 : w9.grownBy w9 (Value.slice a9 (List.take 0 [] ++ [(⟨id, up, nm, r⟩ : Bx)]).length c9).ownBlock := ⟨rfl, rfl, rfl, Nat.le_refl _, fun _ _ _ => rfl⟩
       refine KGO ?_
       exact ⟨hfin _ _ w9 _ (by simpa using o9) o9 K9 g5⟩
      ·rcases Nat.eq_zero_or_pos l.length with hl0 | hl0
       ·have hl0 : l = [] := List.eq_nil_of_length_eq_zero hl0
        have hi0 : i = 0 := by rw [hl0] at hi2; exact hi2
        subst hl0
        subst hi0
        rcases sa with _ | sa
        ·refine KGO ?_
         refine RunV.of (zaR _ _ _ _ _) ?_
         refine KGO ?_
         refine RunV.of (zay ⟨id, up, nm, r⟩ _) ?_
         refine GW ?_
         refine zbF (w := wr) (B := w8.heap.size) ho hK.size ⟨id, up, nm, r⟩ (by omega) fun v9 w9 o9 g9 => ?_
         have K9 : Kp w8 w9 n_ := (hK.alloc _).own (zaf (w := wr) ho ((Kp.refl _ _).alloc _)) (Nat.le_refl _) g9
         obtain ⟨a9, c9, rfl⟩ := zab o9
         refine KGO ?_
         refine zbh (w := w9) _ (m := 0) (c := cap - 0) (r := []) o9 (by have := K9.size; omega) rfl (fun _ => by omega) (by rw [List.length_append, hlen, List.length_nil, List.length_singleton]; omega) fun v5 w5 o5 g5 => ?_
         have hfin2 := hfin v5 w5 w9 _ o5 o9 K9 g5
         obtain ⟨a5, c5, rfl⟩ := zab o5
         refine KGO ?_
         exact ⟨hfin2⟩
        ·refine KGO ?_
         refine zmg (by rfl) fun A' => ?_
         refine KGO ?_
         refine RunV.of (zaR _ _ _ _ _) ?_
         refine KGO ?_
         refine RunV.of (zay ⟨id, up, nm, r⟩ _) ?_
         refine GW ?_
         refine zbF (w := wr) (B := w8.heap.size) ho hK.size ⟨id, up, nm, r⟩ (by omega) fun v9 w9 o9 g9 => ?_
         have K9 : Kp w8 w9 n_ := (hK.alloc _).own (zaf (w := wr) ho ((Kp.refl _ _).alloc _)) (Nat.le_refl _) g9
         obtain ⟨a9, c9, rfl⟩ := zab o9
         refine KGO ?_
         refine zbh (w := w9) A' (m := 0) (c := cap) (r := []) o9 (by have := K9.size; omega) rfl (fun _ => by omega) (by rw [List.length_append, hlen, List.length_nil, List.length_singleton]; omega) fun v5 w5 o5 g5 => ?_
         have hfin2 := hfin v5 w5 w9 _ o5 o9 K9 g5
         obtain ⟨a5, c5, rfl⟩ := zab o5
         refine KGO ?_
         exact ⟨hfin2⟩
       obtain ⟨_, _, hae, _⟩ := hr hl0
       injection hae with hae
       injection hae with e1 e2 e3
       subst e3
       refine KGO ?_
       refine RunV.of (zaR _ _ _ _ _) ?_
       refine KGO ?_
       refine RunV.of (zay ⟨id, up, nm, r⟩ _) ?_
       refine GW ?_
       refine zbF (w := wr) (B := w8.heap.size) ho hK.size ⟨id, up, nm, r⟩ (by omega) fun v9 w9 o9 g9 => ?_
       have K9 : Kp w8 w9 n_ := (hK.alloc _).own (zaf (w := wr) ho ((Kp.refl _ _).alloc _)) (Nat.le_refl _) g9
       obtain ⟨a9, c9, rfl⟩ := zab o9
       refine KGO ?_
       by_cases hic : i = cap
       ·rw [if_pos hic]
        refine zbh (w := w9) _ (m := l.length - i) (c := cap - i) (r := l.drop i) o9 (by have := K9.size; omega) (by rw [List.length_drop]) (fun _ => by omega) (by rw [List.length_append, List.length_drop, hlen, List.length_singleton]; omega) fun v5 w5 o5 g5 => ?_
        have hfin2 := hfin v5 w5 w9 _ o5 o9 K9 g5
        obtain ⟨a5, c5, rfl⟩ := zab o5
        refine KGO ?_
        exact ⟨hfin2⟩
       ·rw [if_neg hic]
        refine zbh (w := w9) _ (m := l.length - i) (c := cap - i) (r := l.drop i) o9 (by have := K9.size; omega) (by rw [List.length_drop]) (fun _ => by omega) (by rw [List.length_append, List.length_drop, hlen, List.length_singleton]; omega) fun v5 w5 o5 g5 => ?_
        have hfin2 := hfin v5 w5 w9 _ o5 o9 K9 g5
        obtain ⟨a5, c5, rfl⟩ := zab o5
        refine KGO ?_
        exact ⟨hfin2⟩
   ·refine KGO ?_
    refine CallS.of (Tryz.call107 _ _) (zcF (w := w5) l up (hv0.keep K5) (by omega)) ?_
    rintro e w6 ⟨rfl, j6⟩
    have K6 := K5.trans0 j6
    refine RT ?_
    cases hbu : boxOf l up with
    | none =>
     have hnegu := zcs.2 hbu
     have hnu : ¬ (up = 0 ∨ hasId l up = true) := fun h => h.elim h0 fun h => by rw [zej hbu] at h; cases h
     refine KGO ?_
     exact ⟨zam (R := addL l up nm r id) 5 (by unfold addL; rw [if_neg g1, if_neg g2, if_neg g3, if_neg h6, if_pos hnu]) K6⟩
    | some c =>
     obtain ⟨_, _, hfu⟩ := zbY hbu
     have hup : up = 0 ∨ hasId l up = true := .inr (zgL hbu)
     rw [hfu]
     clear hfu
     refine KGO ?_
     have Ky := K6
     have g5 : ¬ ¬ (up = 0 ∨ hasId l up = true) := fun h => h hup
     have hdr := zlC hR hup
     refine CallS.of (Tryz.call108 _ _) (zdS (w := w6) l up (hv0.keep Ky) (by omega)) ?_
     rintro e w7 ⟨rfl, j7⟩
     have K7 := Ky.trans0 j7
     rw [hdr]
     refine RT ?_
     by_cases h7 : 8 ≤ dpt l up
     ·refine KGO ?_
      exact ⟨zam (R := addL l up nm r id) 10 (by unfold addL; rw [if_neg g1, if_neg g2, if_neg g3, if_neg h6, if_neg g5, if_pos h7]) K7⟩
     refine KGO ?_
     refine CallS.of (Tryz.call109 _ _) (zcz (w := w7) l up nm 0 (hv0.keep K7) (by omega) (by have := ((zbj _).1 h2).2.1; omega) hs) ?_
     rintro e w8 ⟨rfl, j8⟩
     have K8 := K7.trans0 j8
     refine RT ?_
     by_cases h8 : takenL l up nm 0 = true
     ·rw [h8]
      refine KGO ?_
      exact ⟨zam (R := addL l up nm r id) 4 (by unfold addL; rw [if_neg g1, if_neg g2, if_neg g3, if_neg h6, if_neg g5, if_neg h7, if_pos h8]) K8⟩
     rw [show takenL l up nm 0 = false by simpa using h8]
     have hres : addL l up nm r id = (insL l ⟨id, up, nm, r⟩, 0) := by unfold addL; rw [if_neg g1, if_neg g2, if_neg g3, if_neg h6, if_neg g5, if_neg h7, if_neg h8]
     clear g1 g2 g3 g5 hdr hrb hup
     refine KGO ?_
     refine Loop.intro (ι := Nat × Option Addr × Nat) (fun p => [(0, .slice a l.length cap), (1, .int .i64 up), (2, .string (str nm)), (3, .string (str r)), (4, .int .i64 id), (16, .slice p.2.1 p.1 p.2.2), (17, .int .i64 (p.1 : Nat))])
      (fun p wr => Kp w8 wr n_ ∧ p.1 ≤ l.length ∧ OwnB wr w8.heap.size (.slice p.2.1 p.1 p.2.2) (l.take p.1) ∧ ∀ b ∈ l.take p.1, b.id < id) (fun p => l.length - p.1) (0, none, 0) ⟨rfl, rfl, rfl, rfl, rfl, rfl, rfl, trivial⟩ ⟨Kp.refl _ _, Nat.zero_le _, World.ownsRow_nil _ _ _ _, by simp⟩ ?_
     rintro ⟨i, ao, co⟩ gg wr ⟨hK, hi, ho, hpre⟩
     dsimp only at hi ho hpre ⊢
     refine GW ?_
     by_cases hstop : ∃ hlt : i < l.length, l[i].id < id
     ·obtain ⟨hlt, hid⟩ := hstop
      obtain ⟨gb, o, rfl, hgb, hat⟩ := hr (by omega)
      have KK := K8.trans0 hK
      refine KGO ?_
      refine RunV.of (zay l[i] _) ?_
      refine GW ?_
      have hlen : (l.take i).length = i := by rw [List.length_take]; omega
      refine zbF (w := wr) (B := w8.heap.size) ho hK.size l[i] (by omega) fun v' w9 o9 g9 => ?_
      have K9 : Kp w8 w9 n_ := (hK.alloc _).own (zaf (w := wr) ho ((Kp.refl _ _).alloc _)) (Nat.le_refl _) g9
      rw [← List.take_succ_eq_append_getElem hlt] at o9
      have hlen2 : (l.take (i + 1)).length = i + 1 := by rw [List.length_take]; omega
      obtain ⟨a9, c9, rfl⟩ := zab o9
      rw [hlen2] at o9 ⊢
      refine KGO ?_
      refine ⟨(i + 1, a9, c9), ⟨rfl, rfl, rfl, rfl, rfl, rfl, v_int (by simp), trivial⟩, ⟨K9, by dsimp only; omega, o9, ?_⟩, by dsimp only; omega⟩
      dsimp only
      rw [List.take_succ_eq_append_getElem hlt]
      intro c hc
      rcases List.mem_append.1 hc with hc | hc
      ·exact hpre c hc
      ·rw [List.mem_singleton.1 hc]; exact hid
     ·have hidx : idxL l id = i := zfi hi hpre fun b hb h => by
       obtain ⟨h1, rfl⟩ := List.getElem?_eq_some_iff.1 hb
       exact hstop ⟨h1, h⟩
      have hres2 : addL l up nm r id = (l.take i ++ [⟨id, up, nm, r⟩] ++ l.drop i, 0) := by rw [hres, zjj (x := ⟨id, up, nm, r⟩) hidx]
      clear hres hpre
      have KK := K8.trans0 hK
      have hlen : (l.take i).length = i := by rw [List.length_take]; omega
      have hfin : ∀ v' w' w9 vo, OwnB w' w8.heap.size v' (l.take i ++ [⟨id, up, nm, r⟩] ++ l.drop i) → OwnB w9 w8.heap.size vo (l.take i ++ [⟨id, up, nm, r⟩]) → Kp w8 w9 n_ → w9.grownBy w' vo.ownBlock → ∃ v'', Ending.returned (.tuple #[v', .int .i64 0]) = .returned (.tuple #[v'', .int .i64 ((addL l up nm r id).2 : Nat)]) ∧ OwnB w' w.heap.size v'' (addL l up nm r id).1 ∧ Kp w w' n_ := fun v' w' w9 vo o k9o k9 g => 
       zbK hres2 (zaj o K8.size) (K8.trans0 (k9.own k9o (Nat.le_refl _) g))
      by_cases hlt : i < l.length
      ·have hge : ¬ l[i].id < id := fun h => hstop ⟨hlt, h⟩
       obtain ⟨gb, o, rfl, hgb, hat⟩ := hr (by omega)
       refine KGO ?_
       refine RunV.of (zaR _ _ _ _ _) ?_
       refine KGO ?_
       refine RunV.of (zay ⟨id, up, nm, r⟩ _) ?_
       refine GW ?_
       refine zbF (w := wr) (B := w8.heap.size) ho hK.size ⟨id, up, nm, r⟩ (by omega) fun v9 w9 o9 g9 => ?_
       have K9 : Kp w8 w9 n_ := (hK.alloc _).own (zaf (w := wr) ho ((Kp.refl _ _).alloc _)) (Nat.le_refl _) g9
       obtain ⟨a9, c9, rfl⟩ := zab o9
       refine KGO ?_
       rw [if_neg (by omega : ¬ i = cap)]
       refine zbh (w := w9) ⟨gb, o + i * 4, none⟩ (m := l.length - i) (c := cap - i) (r := l.drop i) o9 (by have := K9.size; omega) (by rw [List.length_drop]) (fun _ => ⟨_, _, rfl, zhV (zac hat (K8.trans0 K9)) i⟩) (by rw [List.length_append, List.length_drop, hlen, List.length_singleton]; omega) fun v5 w5 o5 g5 => ?_
       have hfin2 := hfin v5 w5 w9 _ o5 o9 K9 g5
       obtain ⟨a5, c5, rfl⟩ := zab o5
       refine KGO ?_
       exact ⟨hfin2⟩
      ·have hi2 : i = l.length := by omega
       rcases a with _ | ⟨ga, oa, sa⟩
       ·obtain rfl := hcap0 rfl
        have hl0 : l = [] := List.eq_nil_of_length_eq_zero (by omega)
        have hi0 : i = 0 := by omega
        subst hl0
        subst hi0
        refine KGO ?_
        refine RunV.of (v := .slice none 0 0) (w' := wr) (zhQ _) ?_
        refine KGO ?_
        refine RunV.of (zaR _ _ _ _ _) ?_
        refine KGO ?_
        refine RunV.of (zay ⟨id, up, nm, r⟩ _) ?_
        refine GW ?_
        refine zbF (w := wr) (B := w8.heap.size) ho hK.size ⟨id, up, nm, r⟩ (by omega) fun v9 w9 o9 g9 => ?_
        have K9 : Kp w8 w9 n_ := (hK.alloc _).own (zaf (w := wr) ho ((Kp.refl _ _).alloc _)) (Nat.le_refl _) g9
        obtain ⟨a9, c9, rfl⟩ := zab o9
        refine KGO ?_
        refine zlx o9 ?_
        have o5 := o9
        have g5 : w9.grownBy w9 (Value.slice a9 (List.take 0 [] ++ [(⟨id, up, nm, r⟩ : Bx)]).length c9).ownBlock := ⟨rfl, rfl, rfl, Nat.le_refl _, fun _ _ _ => rfl⟩
        refine KGO ?_
        exact ⟨hfin _ _ w9 _ (by simpa using o9) o9 K9 g5⟩
       ·rcases Nat.eq_zero_or_pos l.length with hl0 | hl0
        ·have hl0 : l = [] := List.eq_nil_of_length_eq_zero hl0
         have hi0 : i = 0 := by rw [hl0] at hi2; exact hi2
         subst hl0
         subst hi0
         rcases sa with _ | sa
         ·refine KGO ?_
          refine RunV.of (zaR _ _ _ _ _) ?_
          refine KGO ?_
          refine RunV.of (zay ⟨id, up, nm, r⟩ _) ?_
          refine GW ?_
          refine zbF (w := wr) (B := w8.heap.size) ho hK.size ⟨id, up, nm, r⟩ (by omega) fun v9 w9 o9 g9 => ?_
          have K9 : Kp w8 w9 n_ := (hK.alloc _).own (zaf (w := wr) ho ((Kp.refl _ _).alloc _)) (Nat.le_refl _) g9
          obtain ⟨a9, c9, rfl⟩ := zab o9
          refine KGO ?_
          refine zbh (w := w9) _ (m := 0) (c := cap - 0) (r := []) o9 (by have := K9.size; omega) rfl (fun _ => by omega) (by rw [List.length_append, hlen, List.length_nil, List.length_singleton]; omega) fun v5 w5 o5 g5 => ?_
          have hfin2 := hfin v5 w5 w9 _ o5 o9 K9 g5
          obtain ⟨a5, c5, rfl⟩ := zab o5
          refine KGO ?_
          exact ⟨hfin2⟩
         ·refine KGO ?_
          refine zmg (by rfl) fun A' => ?_
          refine KGO ?_
          refine RunV.of (zaR _ _ _ _ _) ?_
          refine KGO ?_
          refine RunV.of (zay ⟨id, up, nm, r⟩ _) ?_
          refine GW ?_
          refine zbF (w := wr) (B := w8.heap.size) ho hK.size ⟨id, up, nm, r⟩ (by omega) fun v9 w9 o9 g9 => ?_
          have K9 : Kp w8 w9 n_ := (hK.alloc _).own (zaf (w := wr) ho ((Kp.refl _ _).alloc _)) (Nat.le_refl _) g9
          obtain ⟨a9, c9, rfl⟩ := zab o9
          refine KGO ?_
          refine zbh (w := w9) A' (m := 0) (c := cap) (r := []) o9 (by have := K9.size; omega) rfl (fun _ => by omega) (by rw [List.length_append, hlen, List.length_nil, List.length_singleton]; omega) fun v5 w5 o5 g5 => ?_
          have hfin2 := hfin v5 w5 w9 _ o5 o9 K9 g5
          obtain ⟨a5, c5, rfl⟩ := zab o5
          refine KGO ?_
          exact ⟨hfin2⟩
        obtain ⟨_, _, hae, _⟩ := hr hl0
        injection hae with hae
        injection hae with e1 e2 e3
        subst e3
        refine KGO ?_
        refine RunV.of (zaR _ _ _ _ _) ?_
        refine KGO ?_
        refine RunV.of (zay ⟨id, up, nm, r⟩ _) ?_
        refine GW ?_
        refine zbF (w := wr) (B := w8.heap.size) ho hK.size ⟨id, up, nm, r⟩ (by omega) fun v9 w9 o9 g9 => ?_
        have K9 : Kp w8 w9 n_ := (hK.alloc _).own (zaf (w := wr) ho ((Kp.refl _ _).alloc _)) (Nat.le_refl _) g9
        obtain ⟨a9, c9, rfl⟩ := zab o9
        refine KGO ?_
        by_cases hic : i = cap
        ·rw [if_pos hic]
         refine zbh (w := w9) _ (m := l.length - i) (c := cap - i) (r := l.drop i) o9 (by have := K9.size; omega) (by rw [List.length_drop]) (fun _ => by omega) (by rw [List.length_append, List.length_drop, hlen, List.length_singleton]; omega) fun v5 w5 o5 g5 => ?_
         have hfin2 := hfin v5 w5 w9 _ o5 o9 K9 g5
         obtain ⟨a5, c5, rfl⟩ := zab o5
         refine KGO ?_
         exact ⟨hfin2⟩
        ·rw [if_neg hic]
         refine zbh (w := w9) _ (m := l.length - i) (c := cap - i) (r := l.drop i) o9 (by have := K9.size; omega) (by rw [List.length_drop]) (fun _ => by omega) (by rw [List.length_append, List.length_drop, hlen, List.length_singleton]; omega) fun v5 w5 o5 g5 => ?_
         have hfin2 := hfin v5 w5 w9 _ o5 o9 K9 g5
         obtain ⟨a5, c5, rfl⟩ := zab o5
         refine KGO ?_
         exact ⟨hfin2⟩
end
end Go.Proofs.YtohhkegmbgancaaGreatDoor
namespace Go.Proofs.YtohhkegmbgancaaGreatDoor
set_option maxHeartbeats 8000000
open Go.Shelf Go.RowKit Go.Pw Go.Vc Go.Cs Go.Lib
set_option linter.unusedVariables false
set_option maxRecDepth 100000
def Stab (w : World) (P : World → Prop) : Prop := ∀ w', Kp w w' (isA w) → P w'
section
variable {w w2 : World} {P Q : World → Prop}
theorem Stab.of (s : Stab w P) (k : Kp w w2 (isA w)) : Stab w2 P := fun w' k2 =>
 s w' ⟨k2.os.trans k.os, k2.tape.trans k.tape, k2.output.trans k.output, Nat.le_trans k.size k2.size, fun q hq hn => (k2.block q (Nat.lt_of_lt_of_le hq k.size) fun ⟨cs, hv⟩ => hn ⟨cs, by
  unfold VarK at hv ⊢
  rw [← k.block q hq hn]; exact hv⟩).trans (k.block q hq hn)⟩
theorem Stab.keep (s : Stab w P) (k : Kp w w2 n_) : Stab w2 P := s.of (k.mono fun q _ hq => hq.elim)
theorem Stab.step {b : Nat} {cs : List Value} (s : Stab w P) (hv : VarK w b 36 cs) (k : Kp w w2 (one_ b)) : Stab w2 P := s.of (k.mono fun q _ hq => by
 have e : q = b := hq
 subst e
 exact ⟨cs, .inl hv⟩)
theorem Stab.now (s : Stab w P) : P w := s w (Kp.refl _ _)
theorem Stab.imp (s : Stab w P) (h : ∀ u, P u → Q u) : Stab w Q := fun w' k => h w' (s w' k)
theorem Stab.and (s : Stab w P) (t : Stab w Q) : Stab w (fun u => P u ∧ Q u) := fun w' k => ⟨s w' k, t w' k⟩
theorem zaB {α : Type} {E : TypeId} {c : α → List Value} {s B : Nat} {v : Value} {l : List α} (h : OwnR E c s w B v l) (h1 : E ≠ 36) (h2 : E ≠ 28) : Stab w (fun u => RowO u v c l) := fun w' k =>
 zat (zah h k fun q hq ⟨cs, hv⟩ => hv.elim (fun hv => zau h hv h1 q hq rfl) (fun hv => zau h hv h2 q hq rfl))
theorem StabA.stab {h : Hd} {A : Acc} (s : StabA w h A) : Stab w (fun u => AccR u h A) := s
theorem Stab.acc {h : Hd} {A : Acc} (s : Stab w (fun u => AccR u h A)) : StabA w h A := s
theorem zbk {α : Type} {E : TypeId} {c : α → List Value} {s B : Nat} {v : Value} {l : List α} (h : OwnR E c s w B v l) : CapOk v := fun a n cp e => by
 subst e
 rcases h.2 with ⟨h1, h2⟩ | ⟨g, cap', cur, h1, hb, hgg, h3, h4, _⟩
 ·injection h1 with e1 e2 e3
  subst e1; subst e2; subst e3
  exact ⟨Nat.le_refl _, fun _ => rfl⟩
 ·injection h1 with e1 e2 e3
  subst e1; subst e2; subst e3
  exact ⟨h3, fun e => by cases e⟩
end
structure AccX (u : World) (h : Hd) (lx : List Mr) (A : Acc) : Prop where
 b : RowB u h.B.v A.boxes
 m : RowMr u h.M.v lx
 x : ∀ y ∈ lx, MailOk u y
 s : RowS u h.S.v A.scripts
 n : RowN u h.N.v A.seen
def RefA (w : World) (h : Hd) (A : Acc) : Prop := ∃ lx : List Mr, lx.map (·.m) = A.mails ∧ Stab w (fun u => AccX u h lx A)
theorem RefA.keep {w w' : World} {h : Hd} {A : Acc} (r : RefA w h A) (k : Kp w w' n_) : RefA w' h A := let ⟨lx, h1, h2⟩ := r; ⟨lx, h1, h2.keep k⟩
theorem RefA.read {w : World} {h : Hd} {A : Acc} (r : RefA w h A) : AccR w h A := let ⟨lx, h1, h2⟩ := r; ⟨h2.now.b, ⟨lx, h1, h2.now.m, h2.now.x⟩, h2.now.s, h2.now.n⟩
theorem RefA.step {w w2 : World} {b : Nat} {cs : List Value} {h : Hd} {A : Acc} (r : RefA w h A) (hv : VarK w b 36 cs) (k : Kp w w2 (one_ b)) : RefA w2 h A := let ⟨lx, h1, h2⟩ := r; ⟨lx, h1, h2.step hv k⟩
theorem zlU {w : World} {h : Hd} {A : Acc} (r : AccR w h A) : h.M.n = A.mails.length := by
 obtain ⟨lx, h1, h2, _⟩ := r.m
 rw [RowO.len h2, ← h1, List.length_map]
structure Caps (h : Hd) : Prop where
 B : CapOk h.B.v
 M : CapOk h.M.v
section
variable {w : World}
theorem zgk {h : Hd} {A : Acc} (i : Nat) (x : Mr) (st : RefA w h A) (cp : Caps h) (hx : Stab w (fun u => MailOk u x)) (hi : i < A.mails.length) (hl : A.mails.length ≤ 100000) :
  Calls Tryz.prog 166 #[.agg (accC h A).toArray, .int .i64 (i : Nat), .agg (mrC x).toArray] w fun e w' => ∃ h', e = .returned (.agg (accC h' { A with mails := A.mails.set i x.m }).toArray) ∧ RefA w' h' { A with mails := A.mails.set i x.m } ∧ Caps h' ∧ Kp w w' n_ := by
 obtain ⟨lx, hm, hs⟩ := st
 have hr := hs.now.m
 have hlx : lx.length = A.mails.length := by rw [← hm, List.length_map]
 obtain ⟨a, cap, he, hrr⟩ := hr
 injection he with e1 e2 e3
 refine zaa (args := [.agg (accC h A).toArray, .int .i64 (i : Nat), .agg (mrC x).toArray]) Tryz.func166 rfl NL ?_; refine GW ?_
 obtain ⟨a_b1, v_b1, k_w1, z_w1, r_w1⟩ := new5 w 36 (accC h A)
 generalize w.alloc (.cells (List.toArray (accC h A)) 36) = w1 at *
 generalize hs_b1 : w.heap.size = b1 at *
 obtain ⟨a_b2, v_b2, k_w2, z_w2, r_w2⟩ := new5 w1 42 (mrC x)
 generalize w1.alloc (.cells (List.toArray (mrC x)) 42) = w2 at *
 generalize hs_b2 : w1.heap.size = b2 at *
 obtain ⟨a_b3, v_b3, k_w3, z_w3, r_w3⟩ := new5 w2 36 (zAcc')
 generalize w2.alloc (.cells (List.toArray (zAcc')) 36) = w3 at *
 generalize hs_b3 : w2.heap.size = b3 at *
 have K3 := (k_w1.trans0 k_w2).trans0 k_w3
 have a2 := zac a_b2 k_w3
 have v1 := v_b1.keep0 (k_w2.trans0 k_w3)
 have v3 := v_b3
 refine KGO ?_
 refine RunV.of (build0Ml _) ?_
 have k4 : Kp w3 (w3.alloc (.cells #[] 42)) n_ := (Kp.refl _ _).alloc _
 have o4 := zbc 42 mrC 38 (by decide) w3
 have hB4 := k4.size
 generalize w3.alloc (.cells #[] 42) = w4 at *
 have a1 := zac v1.at k4
 have kr4 := Kp.refl w4 n_
 obtain ⟨gb, o, rfl, hgb, hat⟩ := hrr (by omega)
 have hat4 := zac hat (K3.trans0 k4)
 refine KGO ?_
 rw [e1, e2, e3]
 refine tyM.app lx o4 hB4 rfl (fun _ => ⟨gb, o, rfl, hat4⟩) (by simp; omega) (by simp; omega) fun v5 w5 o5 k5 => ?_
 have K45 : Kp w3 w5 n_ := zaq o4 k5 w3 k4 (Nat.le_refl _)
 rw [List.nil_append] at o5
 have v1 := v1.keep0 K45
 have v3 := v3.keep0 K45
 have a2 := zac a2 K45
 rcases own_blockK o5 with ⟨_, h0⟩ | ⟨g, c5, cells, rfl, hBg, hvk, hnc, hcm, hcl, htk⟩
 ·omega
 clear a1 kr4 hat4
 refine KGO ?_
 refine SCK 1 v1 fun w6 v6 k6 => ?_
 have hg1 : g ≠ b1 := by omega
 have hvk6 := hvk.keep k6 (fun e => hg1 e)
 have v3 := v3.keep k6 (fun e => by have e : b3 = b1 := e; omega)
 have a2' : VarK w6 b2 42 (mrC x) := (v_b2.keep0 (k_w3.trans0 K45)).keep k6 (fun e => by have e : b2 = b1 := e; omega)
 have a1 := v6.at
 have a2 := a2'.at
 have kr6 := Kp.refl w6 n_
 refine KGO ?_
 refine Store.elemK x lenMl (by rfl) (zan (by rfl)) hvk6 hBg hnc hcm hcl htk (by omega) fun w7 o7 vg k7 => ?_
 have v7 := v6.keep k7 (fun e => by have e : b1 = g := e; omega)
 have v3 := v3.keep k7 (fun e => by have e : b3 = g := e; omega)
 have a1 := v7.at
 have K07 : Kp w w7 n_ := zae (zae (K3.trans0 K45) k6 (by omega)) k7 (by have := K3.size; omega)
 have kr7 := Kp.refl w7 n_
 clear kr6
 refine KGO ?_
 refine SVK (accC ⟨h.B, ⟨some ⟨g, 0, none⟩, lx.length, c5⟩, h.S, h.N⟩ { A with mails := A.mails.set i x.m }) v3 fun w8 v8 k8 => ?_
 have K8 : Kp w w8 n_ := zae K07 k8 (by omega)
 have hat := v8.at
 have hgb3 : g ≠ b3 := by omega
 refine KGO ?_
 refine GW ?_
 refine KGO ?_
 refine GW ?_
 have o8 : OwnR 42 mrC 38 w8 w3.heap.size (.slice (some ⟨g, 0, none⟩) (lx.set i x).length c5) (lx.set i x) := by
  unfold OwnR
  rw [List.length_set]
  exact zah o7 k8 fun q hq e => hgb3 (by
   have h1 : g = q := by injection hq
   have h2 : q = b3 := e
   omega)
 have s8 := hs.keep K8
 have hx8 := hx.keep K8
 have m8 := zaB o8 (by decide) (by decide)
 rw [List.length_set] at m8
 refine ⟨_, rfl, ⟨lx.set i x, by rw [← hm, List.map_set], fun u ku => ⟨(s8 u ku).b, m8 u ku, fun y hy => ?_, (s8 u ku).s, (s8 u ku).n⟩⟩, ⟨cp.B, ?_⟩, K8⟩
 ·rcases List.mem_or_eq_of_mem_set hy with hy | rfl
  ·exact (s8 u ku).x y hy
  ·exact hx8 u ku
 ·have := zbk o8
  rw [List.length_set] at this
  exact this
end
end Go.Proofs.YtohhkegmbgancaaGreatDoor
