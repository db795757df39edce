/- Helper text of this claim: Cx3, Cx4, Cd4: lemmas and contracts that the proved statement rests on; no conditions of its own. -/
import Derived.Test.YtcplagfblmemhaaGCg1
import Derived.Test.YtcplagfblmemhaaGCd2
-- alias Try
namespace Go.Proofs.Ytcplagfblmemhaa
set_option linter.unusedVariables false
open Go.Shelf Go.RowKit Go.Pw Go.Vc Go.Cs Go.Lib Go.Cd Go.Cx
set_option linter.unusedVariables false
set_option maxRecDepth 100000
theorem row_of_own {α : Type} {w : World} {B s n : Nat} {e : TypeId} {v : Value} {c : α → List Value} {l : List α} (h : w.ownsRow B e s v n (l.flatMap c)) (hn : n = l.length) : RowO w v c l := by
  subst hn
  rcases own_blockK h with ⟨rfl, h0⟩ | ⟨g, cap, cells, rfl, hB, hv, _⟩
  · exact ⟨none, 0, by rw [h0], fun hp => absurd h0 (by omega)⟩
  · refine ⟨_, _, rfl, fun hp => ⟨g, 0, rfl, hv.lt, ?_⟩⟩
    obtain ⟨g', e1, _, _, e4⟩ := own_at h hp
    injection e1 with e1; injection e1 with e1; subst e1; exact e4
theorem own_cap {w : World} {B s n a c : Nat} {e : TypeId} {ad : Option Addr} {xs : List Value} (h : w.ownsRow B e s (.slice ad a c) n xs) : a ≤ c := by
  rcases own_blockK h with ⟨e, _⟩ | ⟨g, cap, cells, e, _, _, hn, _⟩
  · injection e with e1 e2 e3; omega
  · injection e with e1 e2 e3; omega
section
variable {w : World}
set_option maxHeartbeats 1000000 in
theorem cx_Copy {B b : Nat} {v : Sl} {hs : List Sl} {k : Bk} (h : BkAt w B b v hs k) (hB : B ≤ w.heap.size) : Calls Try.prog 22 #[.pointer (some ⟨b, 0, none⟩)] w fun e w' =>
    ∃ v', e = .returned (.pointer (some ⟨w.heap.size, 0, none⟩)) ∧ BkAt w' B w.heap.size v' hs k ∧ (∀ q, v'.v.ownBlock = some q → w.heap.size ≤ q) ∧ Keeps w w' none_ := by
  have hn := own_nS h.own
  have g := h.good
  have g4 := g.nk; have g5 := g.k1
  obtain ⟨a, n, c⟩ := v
  obtain rfl : n = hs.length := hn
  have hl := h.hl
  have ha : At w b 0 [.int .i64 k.state, .int .i64 k.kept, .slice a hs.length c] := h.var.at
  have hown : w.ownsRow B 37 1 (.slice a hs.length c) hs.length (hs.flatMap shC) := h.own
  have q := Keeps.refl w none_
  refine calls_of_vc (args := [.pointer (some ⟨b, 0, none⟩)]) Try.func22 rfl (Nat.le_of_ble_eq_true rfl) ?_; refine Sat.go hmix ?_; conv => whnf
  refine KGO ?_
  have vk := VarK.new w 50 [.int .i64 k.state, .int .i64 k.kept, .slice a hs.length c]
  refine Store.fresh (vs := [.int .i64 k.state, .int .i64 k.kept, .slice a hs.length c]) (by rfl) rfl (flat_of (by rfl)) ?_
  have a_b1 := at_fresh w 50 ([.int .i64 k.state, .int .i64 k.kept, .slice a hs.length c])
  have k_w1 : Keeps w (w.alloc (.cells (List.toArray ([.int .i64 k.state, .int .i64 k.kept, .slice a hs.length c])) 50)) none_ := (Keeps.refl _ _).alloc _
  have z_w1 : (w.alloc (.cells (List.toArray ([.int .i64 k.state, .int .i64 k.kept, .slice a hs.length c])) 50)).heap.size = w.heap.size + 1 := by simp
  generalize w.alloc (.cells (List.toArray ([.int .i64 k.state, .int .i64 k.kept, .slice a hs.length c])) 50) = w1 at *
  generalize hs_b1 : w.heap.size = b1 at *
  have h1 := h.keep0 k_w1
  refine KGO ?_
  have hrow := (row_of_own hown rfl).keep k_w1
  refine CallS.of (Try.call41 _ _) (cl_Cl hs hrow (by omega)) ?_
  rintro e w2 ⟨v2, rfl, o2, k2⟩
  obtain ⟨a2, c2, rfl⟩ := own_shape o2
  refine ⟨_, rfl, ?_⟩; (first | refine Then.go hmix ?_ | refine Sat.go hmix ?_ | refine ResK.go ?_ | skip); conv => whnf
  have v2 := vk.keep0 k2
  have h2 := h1.keep0 k2
  refine Store.cellK (i := 2) v2 (by simp) (by rfl) ⟨rfl, by simp, by simp⟩ fun w3 v3 k3 => ?_
  refine KGO ?_
  have ob : Value.ownBlock (.slice a2 hs.length c2) ≠ some b1 := own_foreignV o2 v2 (by decide)
  have hlt := h.var.lt
  refine ⟨⟨a2, hs.length, c2⟩, rfl, ⟨v3, own_base (own_keep o2 k3 (fun q hq e => ob (by have e : q = b1 := e; rw [← e]; exact hq))) (by omega), hl, fun i hi => own_keep (h2.row i hi) k3 fun q hq e => own_foreignV (h2.row i hi) v2 (by decide) (by have e : q = b1 := e; rw [← e]; exact hq), g⟩, ?_, ?_⟩
  · intro q hq
    rcases own_blockK o2 with ⟨e, h0⟩ | ⟨g', cap, cells, e, hB', _⟩
    · have : Value.ownBlock (.slice a2 hs.length c2) = some q := hq
      rw [e] at this; cases this
    · have : Value.ownBlock (.slice a2 hs.length c2) = some q := hq
      rw [e] at this
      have e1 : g' = q := by simpa [Value.ownBlock] using this
      omega
  · exact (k_w1.trans0 k2).trans k3 fun i hi e => by have e : i = b1 := e; omega
end
end Go.Proofs.Ytcplagfblmemhaa

-- alias Try
namespace Go.Proofs.Ytcplagfblmemhaa
set_option linter.unusedVariables false
open Go.Shelf Go.RowKit Go.Pw Go.Vc Go.Cs Go.Lib Go.Cd Go.Cx
set_option linter.unusedVariables false
set_option maxRecDepth 100000
theorem bs3T (x y z : ByteArray) (w : World) : (Instr.buildSlice 63 3 [(0, .string x), (1, .string y), (2, .string z)].toArray).run Try.prog w = .ok (.slice (some ⟨w.heap.size, 0, none⟩) 3 3) (w.alloc (.cells (List.toArray ([x, y, z].map fun s => Value.string s)) 9)) := by
  simp [Instr.buildSlice, go_sem, Try.runUnderlying63]
theorem bs1T (x : ByteArray) (w : World) : (Instr.buildSlice 63 1 [(0, .string x)].toArray).run Try.prog w = .ok (.slice (some ⟨w.heap.size, 0, none⟩) 1 1) (w.alloc (.cells (List.toArray [.string x]) 9)) := by
  simp [Instr.buildSlice, go_sem, Try.runUnderlying63]
theorem bs3I (x y z : Int) (w : World) : (Instr.buildSlice 38 3 [(0, .int .i64 x), (1, .int .i64 y), (2, .int .i64 z)].toArray).run Try.prog w = .ok (.slice (some ⟨w.heap.size, 0, none⟩) 3 3) (w.alloc (.cells (List.toArray [.int .i64 x, .int .i64 y, .int .i64 z]) 3)) := by
  simp [Instr.buildSlice, go_sem, Try.runUnderlying38]
theorem flatC_len (l : List Chg) : (flatC l).length = 3 * l.length := by
  induction l with
  | nil => rfl
  | cons c l ih =>
    show ((([c.of.toNat, c.id.toNat, c.what.toNat] : List Nat) ++ flatC l)).length = _
    rw [List.length_append, ih]; simp; omega
theorem flatC_app (l : List Chg) (c : Chg) : flatC (l ++ [c]) = flatC l ++ [c.of.toNat, c.id.toNat, c.what.toNat] := by
  unfold flatC; rw [List.flatMap_append, List.flatMap_singleton]
theorem fine_nat {c : Chg} (h : fineA c = true) : ((c.of.toNat : Nat) : Int) = c.of ∧ ((c.id.toNat : Nat) : Int) = c.id ∧ ((c.what.toNat : Nat) : Int) = c.what ∧ c.of.toNat < 2 ^ 63 ∧ c.what.toNat < 2 ^ 63 := by
  simp only [fineA, three, Bool.and_eq_true, decide_eq_true_eq] at h
  omega
/-- What the serialized form is made of. -/
def partsA (k : Bk) (i : Nat) : List (List UInt8) := numE k.kept.toNat :: numE (firstA k).toNat :: numE k.notes.length :: (k.notes.take i).map fun l => numsE (flatC l)
theorem parts_flat (k : Bk) : (partsA k k.notes.length).flatten = bytesA k := by
  unfold partsA bytesA
  rw [List.take_length]
  simp [List.flatMap_def]
theorem own_fullR {B e s : Nat} (w : World) (cur : List Value) (n : Nat) (hb : B ≤ w.heap.size) (hm : n ≤ maxLen) (hs : cur.length = n * s) :
    (w.alloc (.cells (List.toArray cur) e)).ownsRow B e s (.slice (some ⟨w.heap.size, 0, none⟩) n n) n cur :=
  ⟨hs, .inr ⟨w.heap.size, n, List.toArray cur, rfl, hb, heap_alloc_new w _, Nat.le_refl _, hm, by simpa using hs, (by show List.take (n * s) cur = cur; rw [← hs, List.take_length])⟩⟩
theorem txC_flat (l : List (List UInt8)) : l.flatMap txC = l.map fun s => Value.string (str s) := by
  induction l with
  | nil => rfl
  | cons x l ih => simp only [List.flatMap_cons, List.map_cons, ih]; rfl
theorem shC_flat (l : List Sl) : l.flatMap shC = l.map fun s => Value.slice s.a s.n s.c := by
  induction l with
  | nil => rfl
  | cons x l ih => simp only [List.flatMap_cons, List.map_cons, ih]; rfl
theorem bytesA_len (k : Bk) (g : GoodB k) (hsm : ∀ l ∈ k.notes, l.length ≤ 1000) (hid : ∀ l ∈ k.notes, ∀ c ∈ l, c.id < 9223372036854775808) : (bytesA k).length ≤ 30 + 30000 * k.notes.length := by
  have g1 := g.ns; have g2 := g.s0; have g3 := g.s1; have g4 := g.nk; have g5 := g.k1; have g6 := g.k0
  have n1 := numE_len (show k.kept.toNat < 2 ^ 63 by omega)
  have n2 := numE_len (show (firstA k).toNat < 2 ^ 63 by unfold firstA; omega)
  have n3 := numE_len (show k.notes.length < 2 ^ 63 by omega)
  have n4 : ∀ (L : List (List Chg)), (∀ l ∈ L, l.length ≤ 1000 ∧ (∀ c ∈ l, fineA c = true ∧ c.id < 9223372036854775808)) → (L.flatMap fun l => numsE (flatC l)).length ≤ 30000 * L.length := by
    intro L
    induction L with
    | nil => intro _; simp
    | cons l L ih =>
      intro h
      have h1 := ih fun x hx => h x (List.mem_cons_of_mem _ hx)
      have h2 := h l List.mem_cons_self
      have h3 := flatC_len l
      have h4 := numE_len (show (flatC l).length < 2 ^ 63 by omega)
      have h5 := numsE_len (flatC l) (fun n hn => by
        obtain ⟨c, hc, hn⟩ := List.mem_flatMap.1 hn
        have f := fine_nat (h2.2 c hc).1
        have f2 := (h2.2 c hc).2
        rcases List.mem_cons.1 hn with rfl | hn
        · exact f.2.2.2.1
        rcases List.mem_cons.1 hn with rfl | hn
        · omega
        rw [List.mem_singleton.1 hn]; exact f.2.2.2.2)
      have e : (numsE (flatC l)).length = (numE (flatC l).length).length + ((flatC l).flatMap numE).length := by unfold numsE; rw [List.length_append]
      rw [List.flatMap_cons, List.length_append, List.length_cons]
      omega
  have n5 := n4 k.notes fun l hl => ⟨hsm l hl, fun c hc => ⟨g.fine l hl c hc, hid l hl c hc⟩⟩
  unfold bytesA
  simp only [List.length_append]
  omega
section
variable {w : World}
set_option maxHeartbeats 8000000 in
theorem cx_Bytes {B b : Nat} {v : Sl} {hs : List Sl} {k : Bk} (h : BkAt w B b v hs k) (hid : ∀ l ∈ k.notes, ∀ c ∈ l, c.id < 9223372036854775808) (hsm : ∀ l ∈ k.notes, l.length ≤ 1000) : Calls Try.prog 11 #[.pointer (some ⟨b, 0, none⟩)] w fun e w' =>
    e = .returned (.string (str (bytesA k))) ∧ Keeps w w' none_ := by
  have hn := own_nS h.own
  have g := h.good
  have g1 := g.ns; have g2 := g.s0; have g3 := g.s1; have g4 := g.nk; have g5 := g.k1; have g6 := g.k0
  obtain ⟨a, n, c⟩ := v
  obtain rfl : n = hs.length := hn
  have hl := h.hl
  have ha : At w b 0 [.int .i64 k.state, .int .i64 k.kept, .slice a hs.length c] := h.var.at
  have hown : w.ownsRow B 37 1 (.slice a hs.length c) hs.length (hs.flatMap shC) := h.own
  have hlen : ∀ i (hi : i < k.notes.length), k.notes[i].length ≤ 1000 := fun i hi => hsm _ (List.getElem_mem hi)
  refine calls_of_vc (args := [.pointer (some ⟨b, 0, none⟩)]) Try.func11 rfl (Nat.le_of_ble_eq_true rfl) ?_; refine Sat.go hmix ?_; conv => whnf
  refine Draw.held (fun u => Keeps w u none_) (fun _ => true) (by decide +kernel) (Keeps.refl _ _).drew ?_
  refine KGO ?_
  have hkt : k.kept = ((k.kept.toNat : Nat) : Int) := by omega
  have hft : firstA k = (((firstA k).toNat : Nat) : Int) := by unfold firstA; omega
  have hfb : (firstA k).toNat < 2 ^ 63 := by unfold firstA; omega
  rw [hkt]
  refine CallS.of (Try.call32 _ _) (cd_Num k.kept.toNat (by omega)) ?_
  rintro e w1 ⟨rfl, k1⟩
  refine ⟨_, rfl, ?_⟩; (first | refine Then.go hmix ?_ | refine Sat.go hmix ?_ | refine ResK.go ?_ | skip); conv => whnf
  have K1 : Keeps w w1 none_ := (Keeps.refl w none_).drew.trans0 k1
  refine ⟨K1, ?_⟩
  (first | refine Then.go hmix ?_ | refine Sat.go hmix ?_ | refine ResK.go ?_ | skip); conv => whnf
  refine CallS.of (Try.call20 _ _) (cx_First (h.keep0 K1)) ?_
  rintro e w2 ⟨rfl, k2⟩
  refine ⟨_, rfl, ?_⟩; (first | refine Then.go hmix ?_ | refine Sat.go hmix ?_ | refine ResK.go ?_ | skip); conv => whnf
  have K2 := K1.trans0 k2
  refine ⟨K2, ?_⟩
  (first | refine Then.go hmix ?_ | refine Sat.go hmix ?_ | refine ResK.go ?_ | skip); conv => whnf
  rw [hft]
  refine CallS.of (Try.call32 _ _) (cd_Num (firstA k).toNat hfb) ?_
  rintro e w3 ⟨rfl, k3⟩
  refine ⟨_, rfl, ?_⟩; (first | refine Then.go hmix ?_ | refine Sat.go hmix ?_ | refine ResK.go ?_ | skip); conv => whnf
  have K3 := K2.trans0 k3
  refine ⟨K3, ?_⟩
  refine KGO ?_
  refine CallS.of (Try.call32 _ _) (cd_Num hs.length (by omega)) ?_
  rintro e w4 ⟨rfl, k4⟩
  refine ⟨_, rfl, ?_⟩; (first | refine Then.go hmix ?_ | refine Sat.go hmix ?_ | refine ResK.go ?_ | skip); conv => whnf
  have K4 := K3.trans0 k4
  refine ⟨K4, ?_⟩
  (first | refine Then.go hmix ?_ | refine Sat.go hmix ?_ | refine ResK.go ?_ | skip); conv => whnf
  refine RunV.of (bs3T _ _ _ _) ?_
  have k5 : Keeps w4 (w4.alloc (.cells (List.toArray ([str (numE k.kept.toNat), str (numE (firstA k).toNat), str (numE hs.length)].map fun s => Value.string s)) 9)) none_ := (Keeps.refl _ _).alloc _
  have o5 := own_fullR (B := w.heap.size) (e := 9) (s := 1) w4 ([str (numE k.kept.toNat), str (numE (firstA k).toNat), str (numE hs.length)].map fun s => Value.string s) 3 K4.size (by decide) rfl
  generalize w4.alloc (.cells (List.toArray ([str (numE k.kept.toNat), str (numE (firstA k).toNat), str (numE hs.length)].map fun s => Value.string s)) 9) = w5 at *
  have hvb : w.heap.size ≤ w4.heap.size := K4.size
  generalize w4.heap.size = g5' at *
  have K5 := K4.trans0 k5
  have o5 : OwnT w5 w.heap.size (.slice (some ⟨g5', 0, none⟩) 3 3) (partsA k 0) := by
    have e : (partsA k 0).flatMap txC = [str (numE k.kept.toNat), str (numE (firstA k).toNat), str (numE hs.length)].map fun s => Value.string s := by rw [txC_flat, hl]; rfl
    show w5.ownsRow w.heap.size 9 1 _ 3 _
    rw [e]; exact o5
  refine ⟨K5, ?_⟩
  (first | refine Then.go hmix ?_ | refine Sat.go hmix ?_ | refine ResK.go ?_ | skip); conv => whnf
  have h5 := h.keep0 K5
  have a5 := at_mono ha K5
  have q5 := Keeps.refl w5 none_
  refine KGO ?_
  refine Loop.intro (ι := Nat × Option Addr × Nat) (fun i => [(3, .slice i.2.1 (i.1 + 3) i.2.2), (27, .slice a hs.length c), (28, .int .i64 (hs.length : Nat)), (29, .int .i64 (i.1 : Nat))])
    (fun i wr => Keeps w wr none_ ∧ i.1 ≤ hs.length ∧ OwnT wr w.heap.size (.slice i.2.1 (i.1 + 3) i.2.2) (partsA k i.1)) (fun i => hs.length - i.1) (0, some ⟨g5', 0, none⟩, 3) ⟨rfl, rfl, rfl, rfl, trivial⟩ ⟨K5, by omega, o5⟩ ?_
  rintro ⟨i, la, lc⟩ gf wr ⟨hK, hi, ho⟩
  dsimp only at hi ho ⊢
  (first | refine Then.go hmix ?_ | refine Sat.go hmix ?_ | refine ResK.go ?_ | skip); conv => whnf
  by_cases hlt : i < hs.length
  · obtain ⟨gb, e1, _, hgb, hat⟩ := own_at hown (by omega)
    subst e1
    have hca : w.cell? ⟨gb, 0 + i, none⟩ = some (.slice hs[i].a hs[i].n hs[i].c) := hat i _ (by
      rw [shC_flat]; simp [hlt])
    have hrow := h.row i hlt
    have hnt : k.notes[i]'(by omega) ∈ k.notes := List.getElem_mem _
    obtain ⟨nt, hnte⟩ : ∃ nt, k.notes[i]'(by omega) = nt := ⟨_, rfl⟩
    rw [hnte] at hrow hnt
    have hxn := own_nS hrow
    have htk : k.notes.take (i + 1) = k.notes.take i ++ [nt] := by rw [← hnte]; exact List.take_succ_eq_append_getElem (by omega)
    obtain ⟨x, hx⟩ : ∃ x, hs[i] = x := ⟨_, rfl⟩
    rw [hx] at hrow hxn hca
    obtain ⟨xa, xn, xc⟩ := x
    obtain rfl : xn = nt.length := hxn
    have hrow : w.ownsRow B 48 3 (.slice xa nt.length xc) nt.length (nt.flatMap chC) := hrow
    have hfin := g.fine nt hnt
    have hidn := hid nt hnt
    have hln := hsm nt hnt
    refine KGO ?_
    refine Loop.intro (ι := Nat × Option Addr × Nat) (fun j => [(3, .slice la (i + 3) lc), (27, .slice (some ⟨gb, 0, none⟩) hs.length c), (28, .int .i64 (hs.length : Nat)), (29, .int .i64 (i : Nat)), (6, .slice j.2.1 (3 * j.1) j.2.2), (33, .slice xa nt.length xc), (34, .int .i64 (nt.length : Nat)), (35, .int .i64 (j.1 : Nat))])
      (fun j wq => Keeps w wq none_ ∧ j.1 ≤ nt.length ∧ OwnT wq w.heap.size (.slice la (i + 3) lc) (partsA k i) ∧ wq.ownsRow w.heap.size 3 1 (.slice j.2.1 (3 * j.1) j.2.2) (3 * j.1) ((iL (flatC (nt.take j.1))).flatMap inC)) (fun j => nt.length - j.1) (0, none, 0) ⟨rfl, rfl, rfl, rfl, rfl, rfl, rfl, rfl, trivial⟩ ⟨hK, by omega, ho, World.ownsRow_nil _ _ _ _⟩ ?_
    rintro ⟨j, na, nc⟩ gg wq ⟨hKq, hj, hoq, hni⟩
    dsimp only at hj hoq hni ⊢
    (first | refine Then.go hmix ?_ | refine Sat.go hmix ?_ | refine ResK.go ?_ | skip); conv => whnf
    by_cases hlj : j < nt.length
    · obtain ⟨gx, e1, _, hgx, hatx⟩ := own_at hrow (by omega)
      subst e1
      have hcf := hfin nt[j] (List.getElem_mem hlj)
      obtain ⟨f1, f2, f3, f4, f5⟩ := fine_nat hcf
      have f6 := hidn nt[j] (List.getElem_mem hlj)
      have hnx : flatC (nt.take (j + 1)) = flatC (nt.take j) ++ [nt[j].of.toNat, nt[j].id.toNat, nt[j].what.toNat] := by rw [List.take_succ_eq_append_getElem hlj, flatC_app]
      have hfl := flatC_len (nt.take j)
      rw [List.length_take] at hfl
      refine KGO ?_
      refine Store.fresh (vs := chC nt[j]) (by rfl) rfl (flat_of (by rfl)) ?_
      have a_bc := at_fresh wq 48 (chC nt[j])
      have k_wa : Keeps wq (wq.alloc (.cells (List.toArray (chC nt[j])) 48)) none_ := (Keeps.refl _ _).alloc _
      have z_wa : (wq.alloc (.cells (List.toArray (chC nt[j])) 48)).heap.size = wq.heap.size + 1 := by simp
      generalize wq.alloc (.cells (List.toArray (chC nt[j])) 48) = wa at *
      generalize hs_bc : wq.heap.size = bc at *
      refine KGO ?_
      refine RunV.of (bs3I _ _ _ _) ?_
      have kb : Keeps wa (wa.alloc (.cells (List.toArray [.int .i64 nt[j].of, .int .i64 nt[j].id, .int .i64 nt[j].what]) 3)) none_ := (Keeps.refl _ _).alloc _
      have hbf := at_fresh wa 3 [.int .i64 nt[j].of, .int .i64 nt[j].id, .int .i64 nt[j].what]
      have ob := own_keep0 hni (k_wa.trans0 kb)
      have oqb := own_keep0 hoq (k_wa.trans0 kb)
      generalize wa.alloc (.cells (List.toArray [.int .i64 nt[j].of, .int .i64 nt[j].id, .int .i64 nt[j].what]) 3) = wb at *
      generalize wa.heap.size = gb5 at *
      have Kb := (hKq.trans0 k_wa).trans0 kb
      refine KGO ?_
      have h3j : 3 * j = (iL (flatC (nt.take j))).length := by rw [iL_len]; omega
      have hnew : iL (flatC (nt.take j)) ++ [nt[j].of, nt[j].id, nt[j].what] = iL (flatC (nt.take (j + 1))) := by
        rw [hnx]; simp only [iL, List.map_append, List.map_cons, List.map_nil, f1, f2, f3]
      have ob' : OwnR 3 inC 1 wb w.heap.size (.slice na (3 * j) nc) (iL (flatC (nt.take j))) := by
        unfold OwnR; rw [← h3j]; exact ob
      refine tyI.app (m := 3) [nt[j].of, nt[j].id, nt[j].what] ob' Kb.size rfl (fun _ => ⟨_, _, rfl, hbf⟩) (by simp; omega) (by simp; omega) fun v7 w7 o7 k7 => ?_
      rw [hnew] at o7
      have h3j2 : (iL (flatC (nt.take (j + 1)))).length = 3 * (j + 1) := by rw [iL_len, flatC_len, List.length_take]; omega
      unfold OwnR at o7
      rw [h3j2] at o7
      obtain ⟨a7, c7, rfl⟩ := own_shape o7
      have K7 := own_leC ob k7 Kb (Nat.le_refl _)
      have oq7 := own_keep oqb k7 (fun q hq e => own_own_ne ob oqb (by decide) e hq)
      refine KGO ?_
      exact ⟨(j + 1, a7, c7), ⟨rfl, rfl, rfl, rfl, rfl, rfl, rfl, v_int (by simp), trivial⟩, ⟨K7, by omega, oq7, o7⟩, by dsimp only; omega⟩
    · refine KGO ?_
      have hjn : j = nt.length := by omega
      subst hjn
      rw [List.take_length] at hni
      have hfn := flatC_len nt
      have hni' : OwnI wq w.heap.size (.slice na (3 * nt.length) nc) (iL (flatC nt)) := by
        show wq.ownsRow _ _ _ _ (iL (flatC nt)).length _
        rw [iL_len, hfn]; exact hni
      have hfb2 : ∀ n ∈ flatC nt, n < 2 ^ 63 := fun n hn => by
        obtain ⟨c, hc, hn⟩ := List.mem_flatMap.1 hn
        have f := fine_nat (hfin c hc)
        have f2 := hidn c hc
        rcases List.mem_cons.1 hn with rfl | hn
        · exact f.2.2.2.1
        rcases List.mem_cons.1 hn with rfl | hn
        · omega
        rw [List.mem_singleton.1 hn]; exact f.2.2.2.2
      refine CallS.of (Try.call33 _ _) (cd_Nums (flatC nt) (row_of_own hni' rfl) hfb2 (by omega)) ?_
      rintro e w8 ⟨rfl, k8⟩
      refine ⟨_, rfl, ?_⟩; (first | refine Then.go hmix ?_ | refine Sat.go hmix ?_ | refine ResK.go ?_ | skip); conv => whnf
      have oq8 := own_keep0 hoq k8
      refine RunV.of (bs1T _ _) ?_
      have kb : Keeps w8 (w8.alloc (.cells (List.toArray (txC (numsE (flatC nt)))) 9)) none_ := (Keeps.refl _ _).alloc _
      have hbf := at_fresh w8 9 (txC (numsE (flatC nt)))
      have oq9 := own_keep0 oq8 kb
      generalize w8.alloc (.cells (List.toArray (txC (numsE (flatC nt)))) 9) = w9 at *
      generalize w8.heap.size = g9 at *
      refine KGO ?_
      have K9 := (hKq.trans0 k8).trans0 kb
      have hpl : (partsA k i).length = i + 3 := by simp [partsA, Nat.min_eq_left (show i ≤ k.notes.length by omega)]
      have oq9' : OwnR 9 txC 1 w9 w.heap.size (.slice la (i + 3) lc) (partsA k i) := oq9
      have hpn : partsA k i ++ [numsE (flatC nt)] = partsA k (i + 1) := by unfold partsA; rw [htk]; simp
      refine tyT.app1 (numsE (flatC nt)) oq9' K9.size hbf (by omega) (by omega) fun v7 w7 o7 k7 => ?_
      rw [hpn] at o7
      have hpl2 : (partsA k (i + 1)).length = i + 1 + 3 := by simp [partsA, Nat.min_eq_left (show i + 1 ≤ k.notes.length by omega)]
      have o7b : w7.ownsRow w.heap.size 9 1 v7 (i + 1 + 3) ((partsA k (i + 1)).flatMap txC) := by have := o7; unfold OwnR at this; rw [hpl2] at this; exact this
      obtain ⟨a7, c7, rfl⟩ := own_shape o7b
      have K7 := own_leC oq9 k7 K9 (Nat.le_refl _)
      refine KGO ?_
      exact ⟨(i + 1, a7, c7), ⟨rfl, rfl, rfl, v_int (by simp), trivial⟩, ⟨K7, by omega, o7⟩, by dsimp only; omega⟩
  · refine KGO ?_
    have hii : i = k.notes.length := by omega
    subst hii
    have hpl : (partsA k k.notes.length).length = k.notes.length + 3 := by simp [partsA]
    have ho2 : wr.ownsRow w.heap.size 9 1 (.slice la (k.notes.length + 3) lc) (k.notes.length + 3) ((partsA k k.notes.length).flatMap txC) := by
      have := ho; unfold OwnT at this; rw [hpl] at this; exact this
    have hbig : (partsA k k.notes.length).flatten.length ≤ 140737488355328 := by
      rw [parts_flat]; have := bytesA_len k g hsm hid; omega
    refine CallS.of (Try.call34 _ _) (s_join (w := wr) (partsA k k.notes.length) (row_of_own ho2 hpl.symm) (fun a n c e => by injection e with e1 e2 e3; have := own_cap ho2; omega) hbig (by omega)) ?_
    rintro e w9 ⟨rfl, k9⟩
    refine ⟨_, rfl, ?_⟩; (first | refine Then.go hmix ?_ | refine Sat.go hmix ?_ | refine ResK.go ?_ | skip); conv => whnf
    exact ⟨by rw [parts_flat], hK.trans0 k9⟩
end
end Go.Proofs.Ytcplagfblmemhaa

-- alias Try
namespace Go.Proofs.Ytcplagfblmemhaa
set_option linter.unusedVariables false
open Go.Shelf Go.RowKit Go.Pw Go.Vc Go.Cs Go.Lib Go.Cd
set_option linter.unusedVariables false
set_option maxRecDepth 100000
theorem numR_len (s : St) : ∀ u r, s = some u → (numR s).2 = some r → r.length < u.length := by
  rintro u r rfl h
  unfold numR at h
  dsimp only at h
  split at h
  · cases h
  · rename_i n r' hd
    injection h with h; subst h
    exact (numD_bound 9 false u n r' hd).2
theorem numR_lt (s : St) : (numR s).1 < 2 ^ 63 := by
  unfold numR
  split
  · decide
  · split
    · decide
    · rename_i h; have := (numD_bound _ _ _ _ _ h).1; dsimp only; omega
theorem numR_none {s : St} (h : (numR s).2 = none) : (numR s).1 = 0 := by
  cases s with
  | none => rfl
  | some u =>
    unfold numR at h ⊢
    dsimp only at h ⊢
    cases hd : numD 9 false u with
    | none => rfl
    | some p => rw [hd] at h; cases h
def stLen : St → Nat
  | none => 0
  | some u => u.length
theorem numR_stLen (s : St) : stLen (numR s).2 ≤ stLen s := by
  cases h : (numR s).2 with
  | none => simp [stLen]
  | some r =>
    cases s with
    | none => simp [numR] at h
    | some u => have := numR_len (some u) u r rfl h; simp only [stLen]; omega
section
variable {w : World} {b : Nat}
set_option maxHeartbeats 4000000 in
theorem cd_decI (s : St) (h : VarK w b 83 (rdC s)) (hs : stLen s ≤ 140737488355328 / 16) :
    Calls Try.prog 48 #[.pointer (some ⟨b, 0, none⟩), .func (.func 24) #[.pointer (some ⟨b, 0, none⟩)] #[]] w fun e w' =>
      ∃ v, e = .returned v ∧ OwnI w' w.heap.size v (iL (numsR s).1) ∧ VarK w' b 83 (rdC (numsR s).2) ∧ Keeps w w' (one_ b) := by
  have hs0 : ∀ u, s = some u → u.length ≤ 140737488355328 := by rintro u rfl; simp only [stLen] at hs; omega
  have hlt := h.lt
  refine calls_of_vc (args := [.pointer (some ⟨b, 0, none⟩), .func (.func 24) #[.pointer (some ⟨b, 0, none⟩)] #[]]) Try.func48 rfl (Nat.le_of_ble_eq_true rfl) ?_; refine Sat.go hmix ?_; conv => whnf
  refine CallS.of (Try.call24 _ _) (cd_RNum s h hs0) ?_
  rintro e w1 ⟨rfl, h1, k1⟩
  refine ⟨_, rfl, ?_⟩; (first | refine Then.go hmix ?_ | refine Sat.go hmix ?_ | refine ResK.go ?_ | skip); conv => whnf
  have hle := numR_stLen s
  have hn63 := numR_lt s
  have hnn := @numR_none s
  have hd : numsR s = match numR s with | (_, none) => ([], none) | (n, some r) => if r.length < n then ([], none) else (match numsG n (some r) with | (_, none) => ([], none) | p => p) := rfl
  obtain ⟨n, s1, hns⟩ : ∃ n s1, numR s = (n, s1) := ⟨_, _, rfl⟩
  rw [hns] at h1 hle hn63 hnn hd
  rw [hns]
  dsimp only at h1 hle hn63 hnn hd ⊢
  obtain ⟨r0, x0, hc0, hr0⟩ : ∃ r0 x0, rdC s1 = [.string (str r0), .bool x0] ∧ r0.length = stLen s1 ∧ (s1 = none → x0 = true) ∧ (∀ r, s1 = some r → r = r0 ∧ x0 = false) := by
    cases s1 with
    | none => exact ⟨[], true, rfl, rfl, fun _ => rfl, fun _ h => by cases h⟩
    | some r => exact ⟨r, false, rfl, rfl, (fun h => by cases h), fun _ h => by injection h with h; exact ⟨h.symm, rfl⟩⟩
  obtain ⟨hr0l, hx1, hx2⟩ := hr0
  have a1 : At w1 b 0 [.string (str r0), .bool x0] := by rw [← hc0]; exact h1.at
  have hsz : (str r0).size = r0.length := rfl
  by_cases hbig : r0.length < n
  · refine KGO ?_
    refine CallS.of (Try.call46 _ _) (cd_fail s1 h1) ?_
    rintro e w2 ⟨rfl, h2, k2⟩
    refine ⟨_, rfl, ?_⟩; (first | refine Then.go hmix ?_ | refine Sat.go hmix ?_ | refine ResK.go ?_ | skip); conv => whnf
    have a2 : At w2 b 0 [.string ⟨#[]⟩, .bool true] := h2.at
    have hnil : numsR s = ([], none) := by
      rw [hd]
      cases s1 with
      | none => rfl
      | some r => obtain ⟨rfl, _⟩ := hx2 r rfl; dsimp only; rw [if_pos hbig]
    refine Loop.intro (ι := Unit) (fun i => [(0, .pointer (some ⟨b, 0, none⟩)), (5, .int .i64 (n : Nat)), (6, .slice none 0 0), (7, .int .i64 0)])
      (fun i wr => wr = w2) (fun i => 0) () ⟨rfl, rfl, rfl, rfl, trivial⟩ rfl ?_
    rintro ⟨⟩ g wr rfl
    (first | refine Then.go hmix ?_ | refine Sat.go hmix ?_ | refine ResK.go ?_ | skip); conv => whnf
    have q2 := Keeps.refl wr none_
    by_cases hn0 : 0 < n
    · refine KGO ?_
      rw [hnil]
      exact ⟨_, rfl, World.ownsRow_nil _ _ _ _, h2, k1.trans' k2⟩
    · omega
  cases s1 with
  | none =>
    have hn0 := hnn rfl
    obtain rfl := hx1 rfl
    have hnil : numsR s = ([], none) := hd
    refine KGO ?_
    refine Loop.intro (ι := Unit) (fun i => [(0, .pointer (some ⟨b, 0, none⟩)), (5, .int .i64 (n : Nat)), (6, .slice none 0 0), (7, .int .i64 0)])
      (fun i wr => wr = w1) (fun i => 0) () ⟨rfl, rfl, rfl, rfl, trivial⟩ rfl ?_
    rintro ⟨⟩ g wr rfl
    (first | refine Then.go hmix ?_ | refine Sat.go hmix ?_ | refine ResK.go ?_ | skip); conv => whnf
    have q2 := Keeps.refl wr none_
    refine KGO ?_
    rw [hnil]
    exact ⟨_, rfl, World.ownsRow_nil _ _ _ _, h1, k1⟩
  | some r =>
    obtain ⟨rfl, rfl⟩ := hx2 r rfl
    have hle : r.length ≤ stLen s := hle
    have hb47 : n ≤ 8796093022208 := by omega
    have hd : numsR s = (match numsG n (some r) with | (_, none) => ([], none) | p => p) := by rw [hd]; dsimp only; rw [if_neg hbig]
    refine KGO ?_
    refine Loop.intro (ι := Nat × List Nat × St × Option Addr × Nat) (fun i => [(0, .pointer (some ⟨b, 0, none⟩)), (1, .func (.func 24) #[.pointer (some ⟨b, 0, none⟩)] #[]), (5, .int .i64 (n : Nat)), (6, .slice i.2.2.2.1 i.2.1.length i.2.2.2.2), (7, .int .i64 (i.1 : Nat))])
      (fun i wr => Keeps w wr (one_ b) ∧ VarK wr b 83 (rdC i.2.2.1) ∧ OwnI wr w.heap.size (.slice i.2.2.2.1 i.2.1.length i.2.2.2.2) (iL i.2.1) ∧ i.1 ≤ n ∧ i.2.1.length = i.1 ∧ stLen i.2.2.1 ≤ stLen s ∧
        ((∃ q, i.2.2.1 = some q ∧ numsG n (some r) = (i.2.1 ++ (numsG (n - i.1) (some q)).1, (numsG (n - i.1) (some q)).2)) ∨ (i.2.2.1 = none ∧ (numsG n (some r)).2 = none))) (fun i => n - i.1) (0, [], some r, none, 0) ⟨rfl, rfl, rfl, rfl, rfl, trivial⟩
      ⟨k1, h1, World.ownsRow_nil _ _ _ _, by omega, rfl, hle, .inl ⟨r, rfl, by simp⟩⟩ ?_
    rintro ⟨i, outs, t, a, c⟩ g wr ⟨hK, hv, ho, hi, hol, hst, hor⟩
    dsimp only at hv ho hi hol hst hor ⊢
    (first | refine Then.go hmix ?_ | refine Sat.go hmix ?_ | refine ResK.go ?_ | skip); conv => whnf
    have q2 := Keeps.refl wr none_
    rcases hor with ⟨q, rfl, hg⟩ | ⟨rfl, hg⟩
    · have at_ : At wr b 0 [.string (str q), .bool false] := hv.at
      by_cases hlt2 : i < n
      · refine KGO ?_
        refine CallS.of (Try.call24 _ _) (cd_RNum (some q) hv (fun u e => by injection e with e; subst e; have hst : q.length ≤ stLen s := hst; omega)) ?_
        rintro e w3 ⟨rfl, h3, k3⟩
        refine ⟨_, rfl, ?_⟩; (first | refine Then.go hmix ?_ | refine Sat.go hmix ?_ | refine ResK.go ?_ | skip); conv => whnf
        have o3 : OwnI w3 w.heap.size (.slice a outs.length c) (iL outs) := own_keep ho k3 (fun g hg e => by
          rcases ho.2 with ⟨hn, _⟩ | ⟨g', cap, cur, he, hB, _⟩
          · rw [hn] at hg; cases hg
          · rw [he] at hg; have e1 : g' = g := by simpa [Value.ownBlock] using hg
            have e : g = b := e
            omega)
        have K3 := hK.trans' k3
        have hqlt := numR_lt (some q)
        have hstq := numR_stLen (some q)
        have hgq : numsG (n - i) (some q) = match numR (some q) with | (_, none) => ([], none) | (m, some r) => (match numsG (n - (i + 1)) (some r) with | (l, s) => (m :: l, s)) := by
          obtain ⟨k, hk⟩ : ∃ k, n - i = k + 1 := ⟨n - i - 1, by omega⟩
          rw [hk, show n - (i + 1) = k by omega]; rfl
        obtain ⟨m, t2, hm⟩ : ∃ m t2, numR (some q) = (m, t2) := ⟨_, _, rfl⟩
        rw [hm] at hgq hqlt h3 hstq
        rw [hm]
        dsimp only at hgq hqlt h3 hstq ⊢
        refine RunV.of (bs1I _ _) ?_
        have k4 : Keeps w3 (w3.alloc (.cells (List.toArray (inC (m : Int))) 3)) none_ := (Keeps.refl _ _).alloc _
        have h4 := at_fresh w3 3 (inC (m : Int))
        have o4 := own_keep0 o3 k4
        have v4 := h3.keep0 k4
        generalize w3.alloc (.cells (List.toArray (inC (m : Int))) 3) = w4 at *
        generalize w3.heap.size = g4 at *
        refine KGO ?_
        have K4 := K3.trans0 k4
        have hol2 := iL_len outs
        rw [← hol2]
        rw [← hol2] at o4
        refine tyI.app1 (m : Int) o4 K4.size h4 (by omega) (by omega) fun v5 w5 o5 k5 => ?_
        have hap : iL outs ++ [(m : Int)] = iL (outs ++ [m]) := by simp [iL]
        rw [hap] at o5
        obtain ⟨a5, c5, rfl⟩ := own_shape o5
        have K5 := own_leC o4 k5 K4 (Nat.le_refl _)
        have v5 : VarK w5 b 83 (rdC t2) := v4.keep k5 (fun e => by
          rcases o4.2 with ⟨hn, _⟩ | ⟨g', cap, cur, he, hB, _⟩
          · have e : Value.ownBlock (.slice a (iL outs).length c) = some b := e
            rw [hn] at e; cases e
          · have e : Value.ownBlock (.slice a (iL outs).length c) = some b := e
            rw [he] at e; have e1 : g' = b := by simpa [Value.ownBlock] using e
            omega)
        refine KGO ?_
        refine ⟨(i + 1, outs ++ [m], t2, a5, c5), ⟨rfl, rfl, rfl, congrArg (fun n => Value.slice a5 n c5) (iL_len _), v_int (by simp), trivial⟩, ⟨K5, v5, ?_, by omega, by simp [hol], ?_, ?_⟩, by dsimp only; omega⟩
        · rw [iL_len] at o5; exact o5
        · exact Nat.le_trans hstq hst
        · dsimp only
          cases t2 with
          | none => exact .inr ⟨rfl, by rw [hg, hgq]⟩
          | some q2 => exact .inl ⟨q2, rfl, by rw [hg, hgq]; simp⟩
      · refine KGO ?_
        have hin : i = n := by omega
        subst hin
        rw [Nat.sub_self] at hg
        have hg : numsG i (some r) = (outs, some q) := by rw [hg]; simp [numsG]
        rw [hd, hg]
        exact ⟨_, rfl, ho, hv, hK⟩
    · have at_ : At wr b 0 [.string ⟨#[]⟩, .bool true] := hv.at
      have hnil : numsR s = ([], none) := by
        rw [hd]
        cases hq : numsG n (some r) with
        | mk l st => rw [hq] at hg; dsimp only at hg; subst hg; rfl
      by_cases hlt2 : i < n
      · refine KGO ?_
        rw [hnil]
        exact ⟨_, rfl, World.ownsRow_nil _ _ _ _, hv, hK⟩
      · refine KGO ?_
        rw [hnil]
        exact ⟨_, rfl, World.ownsRow_nil _ _ _ _, hv, hK⟩
theorem cd_RNums (s : St) (h : VarK w b 83 (rdC s)) (hs : stLen s ≤ 140737488355328 / 16) :
    Calls Try.prog 26 #[.pointer (some ⟨b, 0, none⟩)] w fun e w' =>
      ∃ v, e = .returned v ∧ OwnI w' w.heap.size v (iL (numsR s).1) ∧ VarK w' b 83 (rdC (numsR s).2) ∧ Keeps w w' (one_ b) := by
  refine calls_of_vc (args := [.pointer (some ⟨b, 0, none⟩)]) Try.func26 rfl (Nat.le_of_ble_eq_true rfl) ?_; refine Sat.go hmix ?_; conv => whnf
  refine CallS.of (Try.call48 _ _) (cd_decI s h hs) ?_
  rintro e w1 ⟨v, rfl, h1, h2, h3⟩
  obtain ⟨a, c, rfl⟩ := own_shape h1
  refine ⟨_, rfl, ?_⟩; (first | refine Then.go hmix ?_ | refine Sat.go hmix ?_ | refine ResK.go ?_ | skip); conv => whnf
  exact ⟨_, rfl, h1, h2, h3⟩
end
end Go.Proofs.Ytcplagfblmemhaa
