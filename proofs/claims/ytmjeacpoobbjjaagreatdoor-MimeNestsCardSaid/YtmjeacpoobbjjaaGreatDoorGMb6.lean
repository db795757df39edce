/- Helper lemmas that the proved statement rests on; no conditions of their own. -/
import Derived.Test.YtmjeacpoobbjjaaGreatDoorGMb3
set_option linter.unusedVariables false
set_option maxHeartbeats 16000000
set_option maxRecDepth 100000
namespace Go.Proofs.YtmjeacpoobbjjaaGreatDoor
open Go.Shelf Go.RowKit Go.Pw Go.Vc Go.Cs Go.Lib Go.Tk Go.Hd Go.Ty Go.Me
abbrev PI := Prt × Sl
def ptE (x : PI) : List Value := ptC x.1 x.2.v
theorem lenPt (x : PI) : (ptE x).length = 9 := rfl
theorem ptInfo : (Tryz.prog.info? 26).map (fun i => (i.zero, i.size, i.bytes)) = some (some (.agg #[.int .i64 0, .int .i64 0, .int .i64 0, .int .i64 0, .int .i64 0, .string ⟨#[]⟩, .string ⟨#[]⟩, .slice none 0 0, .string ⟨#[]⟩]), 9, 112) := by kernel_rfl
theorem tyPt : RowTy 27 26 ptE 9 112 := ⟨Tryz.underlying27, ⟨_, ptInfo, rfl⟩, by decide, lenPt, fun x => List.all_eq_true.1 (by rfl)⟩
abbrev OwnPt (w : World) (B : Nat) (v : Value) (l : List PI) : Prop := OwnR 26 ptE 9 w B v l
theorem bs1Pt (x : PI) (w : World) : (Instr.buildSlice 27 1 [(0, .agg (ptE x).toArray)].toArray).run Tryz.prog w = .ok (.slice (some ⟨w.heap.size, 0, none⟩) 1 1) (w.alloc (.cells (List.toArray (ptE x)) 26)) := by
 simp [Instr.buildSlice, go_sem, Tryz.runUnderlying27, ptE, ptC]
section
variable {α : Type} {T E : TypeId} {c : α → List Value} {s bytes : Nat} {w : World} {K : Value → World → Prop} {B : Nat} {v : Value} {l : List α} {cs : Array Bool}
theorem zkK (ty : RowTy T E c s bytes) {b cap : Nat} (x : α) (h : OwnR E c s w B v l) (hB : B ≤ w.heap.size) (hx : At w b 0 (c x)) (h63 : l.length + 1 ≤ 9223372036854775807) (hbytes : (l.length + 1) * bytes ≤ 140737488355328)
  (k : ∀ v' w', OwnR E c s w' B v' (l ++ [x]) → Kp w w' (own_ v) → (v'.ownBlock = v.ownBlock ∨ v'.ownBlock = some w.heap.size) → K v' w') : RunN Tryz.prog (builtin .append #[T, T] T cs [v, .slice (some ⟨b, 0, none⟩) 1 cap].toArray) w K := by
 obtain ⟨z, hb, hz⟩ := ty.hb
 obtain ⟨i, hi, hi2⟩ := Option.map_eq_some_iff.1 hb
 simp only [Prod.mk.injEq] at hi2
 obtain ⟨z1, z2, z3⟩ := hi2
 obtain ⟨v', w', h1, h2, h3, _, h5⟩ := run_append_own_at (P := Tryz.prog) w B T T E i z s bytes ty.ht hi z1 z2 z3 hz ty.hs v l.length _ h ⟨b, 0, none⟩ 1 cap (c x) (by rw [ty.len]; omega) (fun j u hj => by rw [zaH]; exact hx j u hj) (ty.one x) (by rw [show maxLen = 9223372036854775807 from rfl]; omega) hbytes hB
 have hk := Kp.ofGrown h3
 refine ⟨v', w', ?_, k v' w' ?_ ⟨hk.os, hk.tape, hk.output, hk.size, fun i hi hn => hk.block i hi fun e => hn e⟩ h5⟩
 ·show (do pure (Next.value (← Builtin.append_ #[T, T] T #[v, .slice (some ⟨b, 0, none⟩) 1 cap])) : Sem Next).run Tryz.prog _ = _
  simp [h1]
 ·unfold OwnR
  rw [List.length_append, List.flatMap_append]
  simpa using h2
end
structure PsI (w : World) (B : Nat) (vo : Value) (l : List PI) : Prop where
 row : OwnPt w B vo l
 ps : ∀ x ∈ l, OwnPa w B x.2.v x.1.type.params
theorem PsI.keep {w w' : World} {B : Nat} {vo : Value} {l : List PI} {c : Nat → Prop} (h : PsI w B vo l) (k : Kp w w' c) (h1 : ∀ q, vo.ownBlock = some q → ¬ c q) (h2 : ∀ x ∈ l, ∀ q, x.2.v.ownBlock = some q → ¬ c q) : PsI w' B vo l :=
 ⟨zaf h.row k h1, fun x hx => zaf (h.ps x hx) k (h2 x hx)⟩
theorem PsI.keep0 {w w' : World} {B : Nat} {vo : Value} {l : List PI} (h : PsI w B vo l) (k : Kp w w' n_) : PsI w' B vo l := h.keep k (fun q _ e => e) (fun x _ q _ e => e)
theorem zfU {t : Nat} : ∀ {b : Nat} {l : List (Nat × Nat)}, Me.Chain t b l → ∀ c ∈ l, c.1 ≤ c.2 ∧ c.2 ≤ t
 | _, [], _, c, hc => by cases hc
 | b, a :: l, ⟨h1, h2, h3, h4⟩, c, hc => by
  rcases List.mem_cons.1 hc with rfl | hc
  ·exact ⟨h2, h3⟩
  ·exact zfU h4 c hc
theorem zfE {t : Nat} : ∀ {b : Nat} {l : List (Nat × Nat)}, Me.Chain t b l → l.length ≤ t + 1 - b
 | _, [], _ => Nat.zero_le _
 | b, a :: l, ⟨h1, h2, h3, h4⟩ => by
  have := zfE h4
  rw [List.length_cons]
  omega
def opC (bo bf : Nat) (vo : Value) : Nat → Prop := fun q => q = bo ∨ q = bf ∨ vo.ownBlock = some q
structure PvI (s : List UInt8) (w00 w : World) (bo bs bf bp B : Nat) (vo : Value) (f : Nat) (l : List PI) : Prop where
 k : Kp w00 w n_
 o : VarK w bo 27 [vo]
 s : VarK w bs 9 [.string (str s)]
 f : VarK w bf 3 [.int .i64 (f : Nat)]
 p : VarK w bp 52 [.func (.func 31) #[] #[.pointer (some ⟨bo, 0, none⟩), .pointer (some ⟨bs, 0, none⟩), .pointer (some ⟨bf, 0, none⟩), .pointer (some ⟨bp, 0, none⟩)]]
 ps : PsI w B vo l
 b1 : w00.heap.size ≤ bo ∧ w00.heap.size ≤ bf ∧ w00.heap.size ≤ B ∧ B ≤ w.heap.size
 ne : bs ≠ bo ∧ bs ≠ bf ∧ bp ≠ bo ∧ bp ≠ bf ∧ bo ≠ bf ∧ bs ≠ bp
theorem PvI.keep0 {s : List UInt8} {w00 w w' : World} {bo bs bf bp B : Nat} {vo : Value} {f : Nat} {l : List PI} (h : PvI s w00 w bo bs bf bp B vo f l) (k : Kp w w' n_) : PvI s w00 w' bo bs bf bp B vo f l :=
 ⟨h.k.trans0 k, h.o.keep0 k, h.s.keep0 k, h.f.keep0 k, h.p.keep0 k, h.ps.keep0 k, by have := h.b1; have := k.size; omega, h.ne⟩
section
variable {w : World}
theorem zaK {B s n q : Nat} {E T : TypeId} {v : Value} {xs cs : List Value} (h : w.ownsRow B E s v n xs) (hv : VarK w q T cs) (hE : E ≠ T) : ¬ v.ownBlock = some q := fun e => by
 obtain ⟨cs', z, h1, _⟩ := zah h e
 have h2 : w.heap[q]? = some (.cells cs.toArray T) := hv
 rw [h2] at h1
 injection h1 with h1
 injection h1 with _ h1
 exact hE h1.symm
theorem zlF (s : List UInt8) (hs : s.length ≤ 100000) {w00 : World} (hT : Tabs w00) (hm : MaxL w00) (hE : ErrL w00) (bo bs bf bp B : Nat) : ∀ (k : Nat) (p : Prt) (sl : Sl) (l : List PI) (f : Nat) (vo : Value) (w : World),
  p.depth + k = 9 → OkP s.length p → SmT p → PvI s w00 w bo bs bf bp B vo f l → OwnPa w B sl.v p.type.params → f ≤ 64 → l.length + 1 ≤ f →
  Calls Tryz.prog 31 #[.agg (ptC p sl.v).toArray, .pointer (some ⟨bo, 0, none⟩), .pointer (some ⟨bs, 0, none⟩), .pointer (some ⟨bf, 0, none⟩), .pointer (some ⟨bp, 0, none⟩)] w fun e w' =>
   e = .returned (.tuple #[]) ∧ ∃ vo' l' f', PvI s w00 w' bo bs bf bp B vo' f' l' ∧ treeM s k p ⟨l.map (·.1), f⟩ = ⟨l'.map (·.1), f'⟩ ∧ Kp w w' (opC bo bf vo) ∧ (∀ q, vo'.ownBlock = some q → vo.ownBlock = some q ∨ w.heap.size ≤ q) ∧ f' ≤ 64 ∧ l'.length ≤ f' := by
 intro k
 induction k with
 | zero => intro p sl l f vo w hd ok; have := ok.d8; omega
 | succ k ih =>
  intro p sl l f vo w hd ok hsm hI hpo hf hl
  obtain ⟨an, nn, cn⟩ := sl
  refine zaa (args := [.agg (ptC p (.slice an nn cn)).toArray, .pointer (some ⟨bo, 0, none⟩), .pointer (some ⟨bs, 0, none⟩), .pointer (some ⟨bf, 0, none⟩), .pointer (some ⟨bp, 0, none⟩)]) Tryz.func31 rfl NL ?_; refine GW ?_
  obtain ⟨a_b5, v_b5, k_w1, z_w1, r_w1⟩ := new5 w 26 (ptC p (.slice an nn cn))
  generalize w.alloc (.cells (List.toArray (ptC p (.slice an nn cn))) 26) = w1 at *
  generalize hs_b5 : w.heap.size = b5 at *
  have I1 := hI.keep0 k_w1
  have po1 := zai hpo k_w1
  have hbne : bo < b5 ∧ bf < b5 ∧ bs < b5 ∧ bp < b5 := by
   have := hI.o.lt
   have := hI.f.lt
   have := hI.s.lt
   have := hI.p.lt
   omega
  obtain ⟨ao, co, rfl⟩ := zad I1.ps.row
  have aO := I1.o.at
  have aP := v_b5.at
  have q1 := Kp.refl w1 n_
  refine KGO ?_
  refine RunV.of (bs1Pt (p, ⟨an, nn, cn⟩) _) ?_
  obtain ⟨a_b9, v_b9, k_w2, z_w2, r_w2⟩ := new5 w1 26 (ptE (p, ⟨an, nn, cn⟩))
  generalize w1.alloc (.cells (List.toArray (ptE (p, ⟨an, nn, cn⟩))) 26) = w2 at *
  generalize hs_b9 : w1.heap.size = b9 at *
  have I2 := I1.keep0 k_w2
  refine KGO ?_
  refine zkK tyPt (p, ⟨an, nn, cn⟩) I2.ps.row (by have := I2.b1; omega) a_b9 (by omega) (by omega) fun v3 w3 o3 k3 hv3 => ?_
  obtain ⟨a3, c3, rfl⟩ := zad o3
  have m3o := I2.o.keep k3 (zaK I2.ps.row I2.o (by decide))
  refine KGO ?_
  refine Store.cellK (i := 0) m3o (by simp) (by rfl) ⟨rfl, by simp, by simp⟩ fun w4 v4 k4 => ?_
  have hne := I2.ne
  have hb1 := I2.b1
  have hvq : ∀ q, (Value.slice ao l.length co).ownBlock = some q → B ≤ q ∧ q < b5 := fun q e => by
   obtain ⟨_, _, _, h3, _⟩ := zah I2.ps.row e
   obtain ⟨_, _, _, _, h4⟩ := zah hI.ps.row e
   exact ⟨h3, by omega⟩
  have hv3q : ∀ q, (Value.slice a3 (l ++ [(p, (⟨an, nn, cn⟩ : Sl))]).length c3).ownBlock = some q → (Value.slice ao l.length co).ownBlock = some q ∨ w2.heap.size ≤ q := fun q e => by
   rcases hv3 with e' | e'
   ·exact .inl (e'.symm.trans e)
   ·rw [e'] at e; injection e with e; exact .inr (by omega)
  have z3 := k3.size
  have z4 := k4.size
  have own3 : ∀ {v : Value} {l : List (List UInt8 × List UInt8)}, OwnPa w2 B v l → OwnPa w4 B v l := fun {v} {l} h => by
   have h3 := zaf h k3 fun q hq e => zbj h I2.ps.row (by decide) hq e
   exact zaf h3 k4 fun q hq e => zaK h3 m3o (by decide) (by have e : q = bo := e; rw [← e]; exact hq)
  have I4 : PvI s w00 w4 bo bs bf bp B (.slice a3 (l ++ [(p, (⟨an, nn, cn⟩ : Sl))]).length c3) f (l ++ [(p, ⟨an, nn, cn⟩)]) :=
   ⟨(I2.k.trans k3 fun q hq e => by have := hvq q e; omega).trans k4 fun q hq e => by have e : q = bo := e; omega, v4,
    (I2.s.keep k3 (zaK I2.ps.row I2.s (by decide))).keep k4 (fun e => hne.1 e),
    (I2.f.keep k3 (zaK I2.ps.row I2.f (by decide))).keep k4 (fun e => hne.2.2.2.2.1 e.symm),
    (I2.p.keep k3 (zaK I2.ps.row I2.p (by decide))).keep k4 (fun e => hne.2.2.1 e),
    ⟨zaf o3 k4 fun q hq e => zaK o3 m3o (by decide) (by have e : q = bo := e; rw [← e]; exact hq), fun x hx => by
     rcases List.mem_append.1 hx with hx | hx
     ·exact own3 (I2.ps.ps x hx)
     ·obtain rfl := List.mem_singleton.1 hx
      exact own3 (zai po1 k_w2)⟩, by omega, hne⟩
  have v5 : VarK w4 b5 26 (ptC p (.slice an nn cn)) := ((v_b5.keep0 k_w2).keep k3 (fun e => by have := hvq b5 e; omega)).keep k4 (fun e => by have e : b5 = bo := e; omega)
  have po4 := own3 (zai po1 k_w2)
  have kw4 : Kp w w4 (opC bo bf (.slice ao l.length co)) := (((k_w1.trans0 k_w2).of_none).trans' (k3.mono fun q _ e => .inr (.inr e))).trans' (k4.mono fun q _ e => .inl e)
  clear aO aP q1 k3 k4 v4 m3o o3 hv3 own3
  have aS := I4.s.at
  have aP : At w4 b5 0 (ptC p (.slice an nn cn)) := v5.at
  have aF := I4.f.at
  have q4 := Kp.refl w4 n_
  refine KGO ?_
  refine CallS.of (Tryz.call32 _ _) (zkn (w := w4) s p (hm.keep I4.k) (by omega) ok (zap po4) hsm) ?_
  rintro e w5 ⟨v5', rfl, o5, k5⟩
  obtain ⟨a5, c5, rfl⟩ := zad o5
  have I5 := I4.keep0 k5
  have v5 := v5.keep0 k5
  have kw5 := kw4.trans' k5.of_none
  have htr : treeM s (k + 1) p ⟨l.map (·.1), f⟩ = if 64 < f + (innerM s p).length then ⟨(l ++ [(p, (⟨an, nn, cn⟩ : Sl))]).map (·.1), f⟩ else (innerM s p).foldl (fun y c => treeM s k (readM s (l.length : Nat) (p.depth + 1) c.1 c.2 (digestM p)) y) ⟨(l ++ [(p, (⟨an, nn, cn⟩ : Sl))]).map (·.1), f + (innerM s p).length⟩ := by
   show (if 64 < f + (innerM s p).length then (⟨l.map (·.1) ++ [p], f⟩ : Row) else _) = _
   rw [List.map_append, List.length_map]; rfl
  have hch : ∀ c ∈ innerM s p, p.depth < 8 ∧ c.1 ≤ c.2 ∧ c.2 ≤ s.length := by
   intro c hc
   obtain ⟨hd8, hcc⟩ := zbB ok (fun e => by rw [e] at hc; cases hc)
   have := zfU hcc c hc
   have := ok.tn
   exact ⟨hd8, by omega, by omega⟩
  have hcl : (innerM s p).length ≤ 100001 := by
   cases hi : innerM s p with
   | nil => simp
   | cons c r =>
    have := zfE (zbB ok (by rw [hi]; simp)).2
    have := ok.tn
    rw [← hi]; omega
  rw [htr]
  clear htr aS aP aF q4
  generalize innerM s p = cs at *
  have aF := I5.f.at
  have q5 := Kp.refl w5 n_
  have vq5 : ∀ q, (Value.slice a3 (l ++ [(p, (⟨an, nn, cn⟩ : Sl))]).length c3).ownBlock = some q → (Value.slice ao l.length co).ownBlock = some q ∨ b5 ≤ q := fun q e => by
   rcases hv3q q e with h | h
   ·exact .inl h
   ·exact .inr (by omega)
  have hb53 : (Value.slice a3 (l ++ [(p, (⟨an, nn, cn⟩ : Sl))]).length c3).ownBlock ≠ some b5 := fun e => by
   rcases hv3q b5 e with h | h
   ·have := hvq _ h; omega
   ·omega
  have hl1 : (l ++ [(p, (⟨an, nn, cn⟩ : Sl))]).length = l.length + 1 := by rw [List.length_append, List.length_singleton]
  refine RT ?_
  by_cases h64 : 64 < f + cs.length
  ·rw [if_pos h64]
   refine KGO ?_
   exact ⟨rfl, _, _, _, I5, rfl, kw5, vq5, hf, by omega⟩
  ·rw [if_neg h64]
   refine KGO ?_
   rw [show ((f : Nat) : Int) + ((cs.length : Nat) : Int) = ((f + cs.length : Nat) : Int) from rfl]
   refine Store.cellK (i := 0) I5.f (by simp) (by rfl) ⟨rfl, by simp, by simp⟩ fun w6 v6 k6 => ?_
   have I6 : PvI s w00 w6 bo bs bf bp B (.slice a3 (l ++ [(p, (⟨an, nn, cn⟩ : Sl))]).length c3) (f + cs.length) (l ++ [(p, ⟨an, nn, cn⟩)]) :=
    ⟨I5.k.trans k6 fun q hq e => by have e : q = bf := e; omega, I5.o.keep k6 (fun e => hne.2.2.2.2.1 e), I5.s.keep k6 (fun e => hne.2.1 e), v6, I5.p.keep k6 (fun e => hne.2.2.2.1 e),
     I5.ps.keep k6 (fun q hq e => zaK I5.ps.row I5.f (by decide) (by have e : q = bf := e; rw [← e]; exact hq)) (fun x hx q hq e => zaK (I5.ps.ps x hx) I5.f (by decide) (by have e : q = bf := e; rw [← e]; exact hq)), by have := k6.size; have := I5.b1; omega, hne⟩
   have v5 := v5.keep k6 (fun e => by have e : b5 = bf := e; omega)
   have o6 := zaf o5 k6 fun q hq e => zaK o5 I5.f (by decide) (by have e : q = bf := e; rw [← e]; exact hq)
   have kw6 := kw5.trans' (k6.mono fun q _ e => .inr (.inl e))
   clear aF q5 k6
   have aP : At w6 b5 0 (ptC p (.slice an nn cn)) := v5.at
   have q6 := Kp.refl w6 n_
   refine KGO ?_
   by_cases hk : p.type.kind = sMultipart
   ·rw [decide_eq_true (show str p.type.kind = ⟨#[109, 117, 108, 116, 105, 112, 97, 114, 116]⟩ from zaD.2 hk)]
    refine KGO ?_
    refine Load.one (by rfl) (aP 6 _ rfl) ?_
    by_cases hsb : p.type.sub = sDigest
    ·have hg : digestM p = true := decide_eq_true ⟨hk, hsb⟩
     rw [hg]
     refine KGO ?_
     rw [decide_eq_true (show str p.type.sub = ⟨#[100, 105, 103, 101, 115, 116]⟩ from zaD.2 hsb)]
     refine KGO ?_
     refine Loop.intro (ι := Nat × Value × List PI × Nat) (fun i => [(1, .pointer (some ⟨bo, 0, none⟩)), (2, .pointer (some ⟨bs, 0, none⟩)), (3, .pointer (some ⟨bf, 0, none⟩)), (4, .pointer (some ⟨bp, 0, none⟩)), (5, .pointer (some ⟨b5, 0, none⟩)), (6, .int .i64 (l.length : Nat)), (8, .bool true), (39, .slice a5 cs.length c5), (40, .int .i64 (cs.length : Nat)), (41, .int .i64 (i.1 : Nat))])
      (fun i wr => PvI s w00 wr bo bs bf bp B i.2.1 i.2.2.2 i.2.2.1 ∧ VarK wr b5 26 (ptC p (.slice an nn cn)) ∧ OwnSp wr w4.heap.size (.slice a5 cs.length c5) cs ∧
       (cs.take i.1).foldl (fun y c => treeM s k (readM s (l.length : Nat) (p.depth + 1) c.1 c.2 true) y) ⟨(l ++ [(p, (⟨an, nn, cn⟩ : Sl))]).map (·.1), f + cs.length⟩ = ⟨i.2.2.1.map (·.1), i.2.2.2⟩ ∧
       Kp w wr (opC bo bf (.slice ao l.length co)) ∧ (∀ q, i.2.1.ownBlock = some q → (Value.slice ao l.length co).ownBlock = some q ∨ b5 ≤ q) ∧ i.2.1.ownBlock ≠ some b5 ∧ i.1 ≤ cs.length ∧ i.2.2.2 ≤ 64 ∧ i.2.2.1.length + (cs.length - i.1) ≤ i.2.2.2)
      (fun i => cs.length - i.1) (0, .slice a3 (l ++ [(p, (⟨an, nn, cn⟩ : Sl))]).length c3, l ++ [(p, ⟨an, nn, cn⟩)], f + cs.length) ⟨rfl, rfl, rfl, rfl, rfl, rfl, rfl, rfl, rfl, rfl, trivial⟩
      ⟨I6, v5, o6, rfl, kw6, vq5, hb53, Nat.zero_le _, by dsimp only; omega, by dsimp only; omega⟩ ?_
     rintro ⟨i, vi, li, fi⟩ g wr ⟨J1, J2, J3, J4, J5, J6, J7, J8, J9, J10⟩
     dsimp only at J1 J2 J3 J4 J5 J6 J7 J8 J9 J10 ⊢
     refine GW ?_
     by_cases hlt : i < cs.length
     ·obtain ⟨_, _, hne5, hrr⟩ := zap (cells := spnC) J3
      injection hne5 with e1 e2 e3
      subst e1; subst e3
      obtain ⟨gb, ob, rfl, hgb, hat⟩ := hrr (by omega)
      have qr := Kp.refl wr n_
      have hft := zbG (fun y c => treeM s k (readM s (l.length : Nat) (p.depth + 1) c.1 c.2 true) y) ⟨(l ++ [(p, (⟨an, nn, cn⟩ : Sl))]).map (·.1), f + cs.length⟩ cs i hlt
      rw [J4] at hft
      obtain ⟨hp8, hC1, hC2⟩ := hch cs[i] (List.getElem_mem hlt)
      refine KGO ?_
      obtain ⟨C, hC⟩ : ∃ C, C = cs[i] := ⟨_, rfl⟩
      rw [← hC] at hft hC1 hC2 ⊢
      obtain ⟨a_b10, v_b10, k_w7, z_w7, r_w7⟩ := new5 wr 55 ([.int .i64 0, .int .i64 0])
      generalize wr.alloc (.cells (List.toArray ([.int .i64 0, .int .i64 0])) 55) = w7 at *
      generalize hs_b10 : wr.heap.size = b10 at *
      refine KGO ?_
      refine SVK (spnC C) v_b10 fun w8 v8 k8 => ?_
      have kr8 := zab k_w7 k8 (by omega)
      have I8 := J1.keep0 kr8
      have v58 := J2.keep0 kr8
      have aP8 : At w8 b5 0 (ptC p (.slice an nn cn)) := v58.at
      have aS8 := I8.s.at
      have aF8 := I8.p.at
      have aC8 : At w8 b10 0 (spnC C) := v8.at
      have q8 := Kp.refl w8 n_
      have kd8 := (Kp.refl w8 n_).drew
      have hd0 := ok.d0
      refine KGO ?_
      refine Draw.heldTail 12 (fun u => Kp w8 u n_) (fun _ => true) (by decide +kernel) (by decide +kernel) kd8 ?_
      refine GW ?_
      refine KGO ?_
      have hIk8 := I8.k
      refine CallS.of (Tryz.call33 _ _) (zeX (w := w8.drew) s (l.length : Nat) (p.depth + 1) C.1 C.2 true (hT.keep (hIk8.trans0 kd8)) (hm.keep (hIk8.trans0 kd8)) (hE.keep (hIk8.trans0 kd8)) (by omega) hC1 hC2) ?_
      rintro e w9 ⟨v9, rfl, o9, k9⟩
      have k89 := kd8.trans0 k9
      have hro := zbI s (l.length : Nat) (p.depth + 1) C.1 C.2 true hC1 hC2 (by omega) (by omega)
      have hrs := zcR s (l.length : Nat) (p.depth + 1) C.1 C.2 true hs hC2
      have hrdp : (readM s (l.length : Nat) (p.depth + 1) C.1 C.2 true).depth = p.depth + 1 := rfl
      generalize readM s (l.length : Nat) (p.depth + 1) C.1 C.2 true = R at *
      obtain ⟨a9, c9, rfl⟩ := zad o9
      have I9 := I8.keep0 k89
      refine RT ?_
      refine ⟨k89, ?_⟩
      refine KGO ?_
      have ih9 := ih R ⟨a9, R.type.params.length, c9⟩ li fi vi w9 (by omega) hro hrs I9 (zan o9 (by have := J1.b1; have := kr8.size; have := kd8.size; omega)) J9 (by omega)
      refine CallS.of (Tryz.call31 _ _) ih9 ?_
      rintro e wA ⟨rfl, vo', l', f', IA, hA, kA, hqA, hfA, hlA⟩
      have z9 := (kr8.trans0 k89).size
      have kwA : Kp wr wA (opC bo bf vi) := ((kr8.trans0 k89).of_none).trans' kA
      have hlen := zeS s k R ⟨li.map (·.1), fi⟩
      rw [hA] at hlen hft
      obtain ⟨mm, hm1, hm2⟩ := hlen
      have hm1 := congrArg List.length hm1
      dsimp only at hm1 hm2
      rw [List.length_append, List.length_append, List.length_map, List.length_map, List.length_singleton] at hm1
      have hlb := v_b5.lt
      have hnb5 : ¬ opC bo bf vi b5 := by
       rintro (e | e | e)
       ·omega
       ·omega
       ·exact J7 e
      refine RT ?_
      refine KGO ?_
      refine ⟨(i + 1, vo', l', f'), ⟨rfl, rfl, rfl, rfl, rfl, rfl, rfl, rfl, rfl, v_int (by simp), trivial⟩, ⟨IA, J2.keep kwA hnb5, zaf J3 kwA fun q hq e => ?_, hft, ?_, ?_, ?_, hlt, hfA, by dsimp only; omega⟩, by dsimp only; omega⟩
      ·rcases e with e | e | e
       ·exact zaK J3 J1.o (by decide) (by rw [← e]; exact hq)
       ·exact zaK J3 J1.f (by decide) (by rw [← e]; exact hq)
       ·exact zbj J3 J1.ps.row (by decide) hq e
      ·exact J5.trans kwA fun q hq e => by
        rcases e with e | e | e
        ·exact .inl e
        ·exact .inr (.inl e)
        ·rcases J6 q e with h | h
         ·exact .inr (.inr h)
         ·exfalso; omega
      ·intro q e
       rcases hqA q e with h | h
       ·exact J6 q h
       ·exact .inr (by have := J2.lt; omega)
      ·intro e
       rcases hqA b5 e with h | h
       ·exact J7 h
       ·have := J2.lt; omega
     ·rw [List.take_of_length_le (by omega)] at J4
      rw [J4]
      refine KGO ?_
      exact ⟨rfl, _, _, _, J1, rfl, J5, J6, J9, by omega⟩
    ·have hg : digestM p = false := decide_eq_false fun e => hsb e.2
     rw [hg]
     refine KGO ?_
     have eb : decide (str p.type.sub = ⟨#[100, 105, 103, 101, 115, 116]⟩) = false := decide_eq_false (fun e => hsb (zaD.1 (e.trans (show (⟨#[100, 105, 103, 101, 115, 116]⟩ : ByteArray) = str sDigest from rfl))))
     rw [eb]
     refine KGO ?_
     refine Loop.intro (ι := Nat × Value × List PI × Nat) (fun i => [(1, .pointer (some ⟨bo, 0, none⟩)), (2, .pointer (some ⟨bs, 0, none⟩)), (3, .pointer (some ⟨bf, 0, none⟩)), (4, .pointer (some ⟨bp, 0, none⟩)), (5, .pointer (some ⟨b5, 0, none⟩)), (6, .int .i64 (l.length : Nat)), (8, .bool false), (39, .slice a5 cs.length c5), (40, .int .i64 (cs.length : Nat)), (41, .int .i64 (i.1 : Nat))])
      (fun i wr => PvI s w00 wr bo bs bf bp B i.2.1 i.2.2.2 i.2.2.1 ∧ VarK wr b5 26 (ptC p (.slice an nn cn)) ∧ OwnSp wr w4.heap.size (.slice a5 cs.length c5) cs ∧
       (cs.take i.1).foldl (fun y c => treeM s k (readM s (l.length : Nat) (p.depth + 1) c.1 c.2 false) y) ⟨(l ++ [(p, (⟨an, nn, cn⟩ : Sl))]).map (·.1), f + cs.length⟩ = ⟨i.2.2.1.map (·.1), i.2.2.2⟩ ∧
       Kp w wr (opC bo bf (.slice ao l.length co)) ∧ (∀ q, i.2.1.ownBlock = some q → (Value.slice ao l.length co).ownBlock = some q ∨ b5 ≤ q) ∧ i.2.1.ownBlock ≠ some b5 ∧ i.1 ≤ cs.length ∧ i.2.2.2 ≤ 64 ∧ i.2.2.1.length + (cs.length - i.1) ≤ i.2.2.2)
      (fun i => cs.length - i.1) (0, .slice a3 (l ++ [(p, (⟨an, nn, cn⟩ : Sl))]).length c3, l ++ [(p, ⟨an, nn, cn⟩)], f + cs.length) ⟨rfl, rfl, rfl, rfl, rfl, rfl, rfl, rfl, rfl, rfl, trivial⟩
      ⟨I6, v5, o6, rfl, kw6, vq5, hb53, Nat.zero_le _, by dsimp only; omega, by dsimp only; omega⟩ ?_
     rintro ⟨i, vi, li, fi⟩ g wr ⟨J1, J2, J3, J4, J5, J6, J7, J8, J9, J10⟩
     dsimp only at J1 J2 J3 J4 J5 J6 J7 J8 J9 J10 ⊢
     refine GW ?_
     by_cases hlt : i < cs.length
     ·obtain ⟨_, _, hne5, hrr⟩ := zap (cells := spnC) J3
      injection hne5 with e1 e2 e3
      subst e1; subst e3
      obtain ⟨gb, ob, rfl, hgb, hat⟩ := hrr (by omega)
      have qr := Kp.refl wr n_
      have hft := zbG (fun y c => treeM s k (readM s (l.length : Nat) (p.depth + 1) c.1 c.2 false) y) ⟨(l ++ [(p, (⟨an, nn, cn⟩ : Sl))]).map (·.1), f + cs.length⟩ cs i hlt
      rw [J4] at hft
      obtain ⟨hp8, hC1, hC2⟩ := hch cs[i] (List.getElem_mem hlt)
      refine KGO ?_
      obtain ⟨C, hC⟩ : ∃ C, C = cs[i] := ⟨_, rfl⟩
      rw [← hC] at hft hC1 hC2 ⊢
      obtain ⟨a_b10, v_b10, k_w7, z_w7, r_w7⟩ := new5 wr 55 ([.int .i64 0, .int .i64 0])
      generalize wr.alloc (.cells (List.toArray ([.int .i64 0, .int .i64 0])) 55) = w7 at *
      generalize hs_b10 : wr.heap.size = b10 at *
      refine KGO ?_
      refine SVK (spnC C) v_b10 fun w8 v8 k8 => ?_
      have kr8 := zab k_w7 k8 (by omega)
      have I8 := J1.keep0 kr8
      have v58 := J2.keep0 kr8
      have aP8 : At w8 b5 0 (ptC p (.slice an nn cn)) := v58.at
      have aS8 := I8.s.at
      have aF8 := I8.p.at
      have aC8 : At w8 b10 0 (spnC C) := v8.at
      have q8 := Kp.refl w8 n_
      have kd8 := (Kp.refl w8 n_).drew
      have hd0 := ok.d0
      refine KGO ?_
      refine Draw.heldTail 12 (fun u => Kp w8 u n_) (fun _ => true) (by decide +kernel) (by decide +kernel) kd8 ?_
      refine GW ?_
      refine KGO ?_
      have hIk8 := I8.k
      refine CallS.of (Tryz.call33 _ _) (zeX (w := w8.drew) s (l.length : Nat) (p.depth + 1) C.1 C.2 false (hT.keep (hIk8.trans0 kd8)) (hm.keep (hIk8.trans0 kd8)) (hE.keep (hIk8.trans0 kd8)) (by omega) hC1 hC2) ?_
      rintro e w9 ⟨v9, rfl, o9, k9⟩
      have k89 := kd8.trans0 k9
      have hro := zbI s (l.length : Nat) (p.depth + 1) C.1 C.2 false hC1 hC2 (by omega) (by omega)
      have hrs := zcR s (l.length : Nat) (p.depth + 1) C.1 C.2 false hs hC2
      have hrdp : (readM s (l.length : Nat) (p.depth + 1) C.1 C.2 false).depth = p.depth + 1 := rfl
      generalize readM s (l.length : Nat) (p.depth + 1) C.1 C.2 false = R at *
      obtain ⟨a9, c9, rfl⟩ := zad o9
      have I9 := I8.keep0 k89
      refine RT ?_
      refine ⟨k89, ?_⟩
      refine KGO ?_
      have ih9 := ih R ⟨a9, R.type.params.length, c9⟩ li fi vi w9 (by omega) hro hrs I9 (zan o9 (by have := J1.b1; have := kr8.size; have := kd8.size; omega)) J9 (by omega)
      refine CallS.of (Tryz.call31 _ _) ih9 ?_
      rintro e wA ⟨rfl, vo', l', f', IA, hA, kA, hqA, hfA, hlA⟩
      have z9 := (kr8.trans0 k89).size
      have kwA : Kp wr wA (opC bo bf vi) := ((kr8.trans0 k89).of_none).trans' kA
      have hlen := zeS s k R ⟨li.map (·.1), fi⟩
      rw [hA] at hlen hft
      obtain ⟨mm, hm1, hm2⟩ := hlen
      have hm1 := congrArg List.length hm1
      dsimp only at hm1 hm2
      rw [List.length_append, List.length_append, List.length_map, List.length_map, List.length_singleton] at hm1
      have hlb := v_b5.lt
      have hnb5 : ¬ opC bo bf vi b5 := by
       rintro (e | e | e)
       ·omega
       ·omega
       ·exact J7 e
      refine RT ?_
      refine KGO ?_
      refine ⟨(i + 1, vo', l', f'), ⟨rfl, rfl, rfl, rfl, rfl, rfl, rfl, rfl, rfl, v_int (by simp), trivial⟩, ⟨IA, J2.keep kwA hnb5, zaf J3 kwA fun q hq e => ?_, hft, ?_, ?_, ?_, hlt, hfA, by dsimp only; omega⟩, by dsimp only; omega⟩
      ·rcases e with e | e | e
       ·exact zaK J3 J1.o (by decide) (by rw [← e]; exact hq)
       ·exact zaK J3 J1.f (by decide) (by rw [← e]; exact hq)
       ·exact zbj J3 J1.ps.row (by decide) hq e
      ·exact J5.trans kwA fun q hq e => by
        rcases e with e | e | e
        ·exact .inl e
        ·exact .inr (.inl e)
        ·rcases J6 q e with h | h
         ·exact .inr (.inr h)
         ·exfalso; omega
      ·intro q e
       rcases hqA q e with h | h
       ·exact J6 q h
       ·exact .inr (by have := J2.lt; omega)
      ·intro e
       rcases hqA b5 e with h | h
       ·exact J7 h
       ·have := J2.lt; omega
     ·rw [List.take_of_length_le (by omega)] at J4
      rw [J4]
      refine KGO ?_
      exact ⟨rfl, _, _, _, J1, rfl, J5, J6, J9, by omega⟩
   ·have hg : digestM p = false := decide_eq_false fun e => hk e.1
    rw [hg]
    have ek : decide (str p.type.kind = ⟨#[109, 117, 108, 116, 105, 112, 97, 114, 116]⟩) = false := decide_eq_false (fun e => hk (zaD.1 (e.trans (show (⟨#[109, 117, 108, 116, 105, 112, 97, 114, 116]⟩ : ByteArray) = str sMultipart from rfl))))
    rw [ek]
    refine KGO ?_
    refine Loop.intro (ι := Nat × Value × List PI × Nat) (fun i => [(1, .pointer (some ⟨bo, 0, none⟩)), (2, .pointer (some ⟨bs, 0, none⟩)), (3, .pointer (some ⟨bf, 0, none⟩)), (4, .pointer (some ⟨bp, 0, none⟩)), (5, .pointer (some ⟨b5, 0, none⟩)), (6, .int .i64 (l.length : Nat)), (8, .bool false), (39, .slice a5 cs.length c5), (40, .int .i64 (cs.length : Nat)), (41, .int .i64 (i.1 : Nat))])
     (fun i wr => PvI s w00 wr bo bs bf bp B i.2.1 i.2.2.2 i.2.2.1 ∧ VarK wr b5 26 (ptC p (.slice an nn cn)) ∧ OwnSp wr w4.heap.size (.slice a5 cs.length c5) cs ∧
      (cs.take i.1).foldl (fun y c => treeM s k (readM s (l.length : Nat) (p.depth + 1) c.1 c.2 false) y) ⟨(l ++ [(p, (⟨an, nn, cn⟩ : Sl))]).map (·.1), f + cs.length⟩ = ⟨i.2.2.1.map (·.1), i.2.2.2⟩ ∧
      Kp w wr (opC bo bf (.slice ao l.length co)) ∧ (∀ q, i.2.1.ownBlock = some q → (Value.slice ao l.length co).ownBlock = some q ∨ b5 ≤ q) ∧ i.2.1.ownBlock ≠ some b5 ∧ i.1 ≤ cs.length ∧ i.2.2.2 ≤ 64 ∧ i.2.2.1.length + (cs.length - i.1) ≤ i.2.2.2)
     (fun i => cs.length - i.1) (0, .slice a3 (l ++ [(p, (⟨an, nn, cn⟩ : Sl))]).length c3, l ++ [(p, ⟨an, nn, cn⟩)], f + cs.length) ⟨rfl, rfl, rfl, rfl, rfl, rfl, rfl, rfl, rfl, rfl, trivial⟩
     ⟨I6, v5, o6, rfl, kw6, vq5, hb53, Nat.zero_le _, by dsimp only; omega, by dsimp only; omega⟩ ?_
    rintro ⟨i, vi, li, fi⟩ g wr ⟨J1, J2, J3, J4, J5, J6, J7, J8, J9, J10⟩
    dsimp only at J1 J2 J3 J4 J5 J6 J7 J8 J9 J10 ⊢
    refine GW ?_
    by_cases hlt : i < cs.length
    ·obtain ⟨_, _, hne5, hrr⟩ := zap (cells := spnC) J3
     injection hne5 with e1 e2 e3
     subst e1; subst e3
     obtain ⟨gb, ob, rfl, hgb, hat⟩ := hrr (by omega)
     have qr := Kp.refl wr n_
     have hft := zbG (fun y c => treeM s k (readM s (l.length : Nat) (p.depth + 1) c.1 c.2 false) y) ⟨(l ++ [(p, (⟨an, nn, cn⟩ : Sl))]).map (·.1), f + cs.length⟩ cs i hlt
     rw [J4] at hft
     obtain ⟨hp8, hC1, hC2⟩ := hch cs[i] (List.getElem_mem hlt)
     refine KGO ?_
     obtain ⟨C, hC⟩ : ∃ C, C = cs[i] := ⟨_, rfl⟩
     rw [← hC] at hft hC1 hC2 ⊢
     obtain ⟨a_b10, v_b10, k_w7, z_w7, r_w7⟩ := new5 wr 55 ([.int .i64 0, .int .i64 0])
     generalize wr.alloc (.cells (List.toArray ([.int .i64 0, .int .i64 0])) 55) = w7 at *
     generalize hs_b10 : wr.heap.size = b10 at *
     refine KGO ?_
     refine SVK (spnC C) v_b10 fun w8 v8 k8 => ?_
     have kr8 := zab k_w7 k8 (by omega)
     have I8 := J1.keep0 kr8
     have v58 := J2.keep0 kr8
     have aP8 : At w8 b5 0 (ptC p (.slice an nn cn)) := v58.at
     have aS8 := I8.s.at
     have aF8 := I8.p.at
     have aC8 : At w8 b10 0 (spnC C) := v8.at
     have q8 := Kp.refl w8 n_
     have kd8 := (Kp.refl w8 n_).drew
     have hd0 := ok.d0
     refine KGO ?_
     refine Draw.heldTail 12 (fun u => Kp w8 u n_) (fun _ => true) (by decide +kernel) (by decide +kernel) kd8 ?_
     refine GW ?_
     refine KGO ?_
     have hIk8 := I8.k
     refine CallS.of (Tryz.call33 _ _) (zeX (w := w8.drew) s (l.length : Nat) (p.depth + 1) C.1 C.2 false (hT.keep (hIk8.trans0 kd8)) (hm.keep (hIk8.trans0 kd8)) (hE.keep (hIk8.trans0 kd8)) (by omega) hC1 hC2) ?_
     rintro e w9 ⟨v9, rfl, o9, k9⟩
     have k89 := kd8.trans0 k9
     have hro := zbI s (l.length : Nat) (p.depth + 1) C.1 C.2 false hC1 hC2 (by omega) (by omega)
     have hrs := zcR s (l.length : Nat) (p.depth + 1) C.1 C.2 false hs hC2
     have hrdp : (readM s (l.length : Nat) (p.depth + 1) C.1 C.2 false).depth = p.depth + 1 := rfl
     generalize readM s (l.length : Nat) (p.depth + 1) C.1 C.2 false = R at *
     obtain ⟨a9, c9, rfl⟩ := zad o9
     have I9 := I8.keep0 k89
     refine RT ?_
     refine ⟨k89, ?_⟩
     refine KGO ?_
     have ih9 := ih R ⟨a9, R.type.params.length, c9⟩ li fi vi w9 (by omega) hro hrs I9 (zan o9 (by have := J1.b1; have := kr8.size; have := kd8.size; omega)) J9 (by omega)
     refine CallS.of (Tryz.call31 _ _) ih9 ?_
     rintro e wA ⟨rfl, vo', l', f', IA, hA, kA, hqA, hfA, hlA⟩
     have z9 := (kr8.trans0 k89).size
     have kwA : Kp wr wA (opC bo bf vi) := ((kr8.trans0 k89).of_none).trans' kA
     have hlen := zeS s k R ⟨li.map (·.1), fi⟩
     rw [hA] at hlen hft
     obtain ⟨mm, hm1, hm2⟩ := hlen
     have hm1 := congrArg List.length hm1
     dsimp only at hm1 hm2
     rw [List.length_append, List.length_append, List.length_map, List.length_map, List.length_singleton] at hm1
     have hlb := v_b5.lt
     have hnb5 : ¬ opC bo bf vi b5 := by
      rintro (e | e | e)
      ·omega
      ·omega
      ·exact J7 e
     refine RT ?_
     refine KGO ?_
     refine ⟨(i + 1, vo', l', f'), ⟨rfl, rfl, rfl, rfl, rfl, rfl, rfl, rfl, rfl, v_int (by simp), trivial⟩, ⟨IA, J2.keep kwA hnb5, zaf J3 kwA fun q hq e => ?_, hft, ?_, ?_, ?_, hlt, hfA, by dsimp only; omega⟩, by dsimp only; omega⟩
     ·rcases e with e | e | e
      ·exact zaK J3 J1.o (by decide) (by rw [← e]; exact hq)
      ·exact zaK J3 J1.f (by decide) (by rw [← e]; exact hq)
      ·exact zbj J3 J1.ps.row (by decide) hq e
     ·exact J5.trans kwA fun q hq e => by
       rcases e with e | e | e
       ·exact .inl e
       ·exact .inr (.inl e)
       ·rcases J6 q e with h | h
        ·exact .inr (.inr h)
        ·exfalso; omega
     ·intro q e
      rcases hqA q e with h | h
      ·exact J6 q h
      ·exact .inr (by have := J2.lt; omega)
     ·intro e
      rcases hqA b5 e with h | h
      ·exact J7 h
      ·have := J2.lt; omega
    ·rw [List.take_of_length_le (by omega)] at J4
     rw [J4]
     refine KGO ?_
     exact ⟨rfl, _, _, _, J1, rfl, J5, J6, J9, by omega⟩
end
section
variable {w : World}
theorem zeO (s : List UInt8) (hT : Tabs w) (hm : MaxL w) (hE : ErrL w) (hs : s.length ≤ 100000) : Calls Tryz.prog 11 #[.string (str s)] w fun e w' => ∃ v l, e = .returned v ∧ PsI w' w.heap.size v l ∧ l.map (·.1) = parseM s ∧ Kp w w' n_ := by
 have hz := zae s
 refine zaa (args := [.string (str s)]) Tryz.func11 rfl NL ?_; refine GW ?_
 obtain ⟨a_b1, v_b1, k_w1, z_w1, r_w1⟩ := new5 w 9 ([.string (str s)])
 generalize w.alloc (.cells (List.toArray ([.string (str s)])) 9) = w1 at *
 generalize hs_b1 : w.heap.size = b1 at *
 refine KGO ?_
 obtain ⟨a_b3, v_b3, k_w2, z_w2, r_w2⟩ := new5 w1 27 ([.slice none 0 0])
 generalize w1.alloc (.cells (List.toArray ([.slice none 0 0])) 27) = w2 at *
 generalize hs_b3 : w1.heap.size = b3 at *
 refine KGO ?_
 obtain ⟨a_b4, v_b4, k_w3, z_w3, r_w3⟩ := new5 w2 3 ([.int .i64 0])
 generalize w2.alloc (.cells (List.toArray ([.int .i64 0])) 3) = w3 at *
 generalize hs_b4 : w2.heap.size = b4 at *
 refine KGO ?_
 refine Store.cellK (i := 0) v_b4 (by simp) (by rfl) ⟨rfl, by simp, by simp⟩ fun w4 v4 k4 => ?_
 refine KGO ?_
 obtain ⟨a_b5, v_b5, k_w5, z_w5, r_w5⟩ := new5 w4 52 ([.nilFunc])
 generalize w4.alloc (.cells (List.toArray ([.nilFunc])) 52) = w5 at *
 generalize hs_b5 : w4.heap.size = b5 at *
 refine KGO ?_
 refine Store.cellK (i := 0) v_b5 (by simp) (by rfl) ⟨rfl, by simp, by simp⟩ fun w6 v6 k6 => ?_
 have k24 := zab k_w3 k4 (by omega)
 have hz45 : w4.heap.size = b5 := by omega
 have z4 := k4.size
 have k46 := zab k_w5 k6 (by omega)
 have k26 := k24.trans0 k46
 have K6 := k_w1.trans0 (k_w2.trans0 k26)
 have u1 := v_b1.keep0 (k_w2.trans0 k26)
 have u3 := v_b3.keep0 k26
 have u4 := v4.keep0 k46
 have zz := u4.lt
 have hI : PvI s w w6 b3 b1 b4 b5 w6.heap.size (.slice none 0 0) 1 [] :=
  ⟨K6, u3, u1, u4, v6, ⟨World.ownsRow_nil _ _ _ _, fun x hx => by cases hx⟩, by have := K6.size; omega, by omega⟩
 have aS := u1.at
 have aF := v6.at
 have q6 := Kp.refl w6 n_
 have kd := (Kp.refl w6 n_).drew
 refine KGO ?_
 refine Draw.heldTail 5 (fun u => Kp w6 u n_) (fun _ => true) (by decide +kernel) (by decide +kernel) kd ?_
 refine GW ?_
 refine KGO ?_
 rw [hz]
 refine CallS.of (Tryz.call33 _ _) (zeX (w := w6.drew) s (-1) 0 0 s.length false (hT.keep (K6.trans0 kd)) (hm.keep (K6.trans0 kd)) (hE.keep (K6.trans0 kd)) (by omega) (Nat.zero_le _) (Nat.le_refl _)) ?_
 rintro e w7 ⟨v7, rfl, o7, k7⟩
 have k67 := kd.trans0 k7
 have hro := zbI s (-1) 0 0 s.length false (Nat.zero_le _) (Nat.le_refl _) (by omega) (by omega)
 have hrs := zcR s (-1) 0 0 s.length false hs (Nat.le_refl _)
 have hpd : parseM s = (treeM s 9 (readM s (-1) 0 0 s.length false) ⟨[], 1⟩).l := rfl
 have hrd : (readM s (-1) 0 0 s.length false).depth = 0 := rfl
 rw [hpd]
 clear hpd
 generalize readM s (-1) 0 0 s.length false = R at *
 obtain ⟨a7, c7, rfl⟩ := zad o7
 have I7 := hI.keep0 k67
 refine RT ?_
 refine ⟨k67, ?_⟩
 refine KGO ?_
 have ho := zlF s hs hT hm hE b3 b1 b4 b5 w6.heap.size 9 R ⟨a7, R.type.params.length, c7⟩ [] 1 (.slice none 0 0) w7 (by omega) hro hrs I7 (zan o7 (Nat.le_refl _)) (by omega) (Nat.le_refl _)
 refine CallS.of (Tryz.call31 _ _) ho ?_
 rintro e w8 ⟨rfl, vo, l, f, I8, ht, k8, hq, hf, hl⟩
 have aO := I8.o.at
 have q8 := Kp.refl w8 n_
 obtain ⟨ao, co, rfl⟩ := zad I8.ps.row
 refine RT ?_
 refine KGO ?_
 refine ⟨_, l, rfl, ⟨zan I8.ps.row (by have := K6.size; omega), fun x hx => zan (I8.ps.ps x hx) (by have := K6.size; omega)⟩, ?_, I8.k⟩
 have ht' : treeM s 9 R ⟨[], 1⟩ = ⟨l.map (·.1), f⟩ := ht
 rw [ht']
end
end Go.Proofs.YtmjeacpoobbjjaaGreatDoor
