/- Helper text of this claim: Ad0, Ag5, Ag6: lemmas and contracts that the proved statement rests on; no conditions of its own. -/
import Derived.Test.YtohhkegmbgancaaGreatDoorGAa3
import Derived.Test.YtohhkegmbgancaaGreatDoorGAx1
-- alias Tryz
namespace Go.Proofs.YtohhkegmbgancaaGreatDoor
open Go.Shelf Go.RowKit Go.Pw Go.Vc Go.Cs Go.Lib
set_option linter.unusedVariables false
set_option maxRecDepth 100000
/-- The headers of an operation's slices. -/
structure Ov where
  b : Sl
  a : Sl
  d : Sl
def opC (v : Ov) (o : Opr) : List Value := [.int .i64 o.kind, .int .i64 o.id, .int .i64 o.box, .int .i64 o.up, .string (str o.name), .string (str o.role), .string (str o.text)] ++ (dgC o.blob ++ [.slice v.b.a v.b.n v.b.c, .slice v.a.a v.a.n v.a.c, .slice v.d.a v.d.n v.d.c, .int .i64 o.at_, .int .i64 o.size, .int .i64 o.if_])
/-- An operation in memory. -/
structure OpR (w : World) (v : Ov) (o : Opr) : Prop where
  b : RowI w v.b.v o.boxes
  a : RowT w v.a.v o.add
  d : RowT w v.d.v o.drop
theorem OpR.keep {w w' : World} {v : Ov} {o : Opr} (h : OpR w v o) (k : Keeps w w' none_) : OpR w' v o := ⟨h.b.keep k, h.a.keep k, h.d.keep k⟩
structure FitO (o : Opr) : Prop where
  b : o.boxes.length ≤ 17592186043904
  a : o.add.length ≤ 8796093021952
  d : o.drop.length ≤ 8796093021952
  fa : ∀ f ∈ o.add, f.length ≤ 140737488355328
  fd : ∀ f ∈ o.drop, f.length ≤ 140737488355328
  nm : o.name.length ≤ 140737488355328
  rl : o.role.length ≤ 140737488355328
  tx : o.text.length ≤ 140737488355328
/-- A draft: its account's cells, and rows of its own, all in blocks from B on and before the draft's own. -/
structure Drf (w : World) (B b : Nat) (h : Hd) (lx : List Mr) (A : Acc) : Prop where
  v : VarK w b 65 (accC h A)
  o : AccO w B h lx A
  lt : ∀ k ∈ h.bs ++ lx.flatMap Mr.bs, k < b
  B : B ≤ b
/-- Its rows stand while a variable of the account's type is written. -/
def isA (w : World) : Nat → Prop := fun q => ∃ cs, VarK w q 36 cs ∨ VarK w q 28 cs
def StabA (w : World) (h : Hd) (A : Acc) : Prop := ∀ (w' : World), Keeps w w' (isA w) → AccR w' h A
theorem StabA.of {w w2 : World} {h : Hd} {A : Acc} (s : StabA w h A) (k : Keeps w w2 (isA w)) : StabA w2 h A := fun w' k2 =>
  s w' ⟨k2.os.trans k.os, k2.tape.trans k.tape, k2.output.trans k.output, Nat.le_trans k.size k2.size, fun q hq hn => (k2.block q (Nat.lt_of_lt_of_le hq k.size) fun ⟨cs, hv⟩ => hn ⟨cs, by
    unfold VarK at hv ⊢
    rw [← k.block q hq hn]; exact hv⟩).trans (k.block q hq hn)⟩
theorem StabA.keep {w w2 : World} {h : Hd} {A : Acc} (s : StabA w h A) (k : Keeps w w2 none_) : StabA w2 h A := s.of (k.mono fun q _ hq => hq.elim)
theorem StabA.step {w w2 : World} {b : Nat} {cs : List Value} {h : Hd} {A : Acc} (s : StabA w h A) (hv : VarK w b 36 cs) (k : Keeps w w2 (one_ b)) : StabA w2 h A := s.of (k.mono fun q _ hq => by
  have e : q = b := hq
  subst e
  exact ⟨cs, .inl hv⟩)
theorem StabA.stepO {w w2 : World} {b : Nat} {cs : List Value} {h : Hd} {A : Acc} (s : StabA w h A) (hv : VarK w b 28 cs) (k : Keeps w w2 (one_ b)) : StabA w2 h A := s.of (k.mono fun q _ hq => by
  have e : q = b := hq
  subst e
  exact ⟨cs, .inr hv⟩)
theorem StabA.read {w : World} {h : Hd} {A : Acc} (s : StabA w h A) : AccR w h A := s w (Keeps.refl _ _)
/-- What a method hands back. -/
def Done (w' : World) (b : Nat) (e : Ending) : Except Nat (Acc × Int) → Prop
  | .error c => e = .returned (.tuple #[.int .i64 0, .int .i64 (c : Nat)])
  | .ok r => e = .returned (.tuple #[.int .i64 r.2, .int .i64 0]) ∧ ∃ h', VarK w' b 65 (accC h' r.1) ∧ AccR w' h' r.1 ∧ StabA w' h' r.1
theorem mem_otl {o : Option Nat} {k : Nat} : k ∈ o.toList ↔ o = some k := by cases o <;> simp [eq_comm]
/-- A row of another kind lies elsewhere. -/
theorem own_ne_of {w : World} {B s n b : Nat} {e T : TypeId} {v : Value} {xs cs : List Value} (h : w.ownsRow B e s v n xs) (hv : VarK w b T cs) (hne : e ≠ T) : ∀ q, v.ownBlock = some q → q ≠ b := fun q hq hqb => by
  subst hqb
  rcases h.2 with ⟨rfl, _⟩ | ⟨g, cap, cur, rfl, _, hr, _⟩
  · cases hq
  · injection hq with hq
    subst hq
    unfold VarK at hv
    rw [hr] at hv
    injection hv with hv
    injection hv with _ hv
    exact hne hv
/-- An account in memory, its rows unshared with the draft's own block. -/
structure AccP (w : World) (h : Hd) (lx : List Mr) (A : Acc) : Prop where
  b : OwnB w 0 h.B.v A.boxes
  s : OwnSrc w 0 h.S.v A.scripts
  n : OwnSn w 0 h.N.v A.seen
  m : OwnMl w 0 h.M.v lx
  ml : lx.map (·.m) = A.mails
  mb : ∀ x ∈ lx, OwnI w 0 x.b.v x.m.boxes ∧ OwnT w 0 x.f.v x.m.flags
def Hd.all (h : Hd) (lx : List Mr) : List Nat := h.bs ++ lx.flatMap Mr.bs
theorem Hd.all_b {h : Hd} {lx : List Mr} {k : Nat} (e : h.B.v.ownBlock = some k) : k ∈ h.all lx := List.mem_append_left _ (by unfold Hd.bs; simp [e])
theorem Hd.all_s {h : Hd} {lx : List Mr} {k : Nat} (e : h.S.v.ownBlock = some k) : k ∈ h.all lx := List.mem_append_left _ (by unfold Hd.bs; simp [e])
theorem Hd.all_n {h : Hd} {lx : List Mr} {k : Nat} (e : h.N.v.ownBlock = some k) : k ∈ h.all lx := List.mem_append_left _ (by unfold Hd.bs; simp [e])
theorem Hd.all_m {h : Hd} {lx : List Mr} {k : Nat} (e : h.M.v.ownBlock = some k) : k ∈ h.all lx := List.mem_append_left _ (by unfold Hd.bs; simp [e])
theorem Hd.all_x {h : Hd} {lx : List Mr} {k : Nat} {x : Mr} (hx : x ∈ lx) (e : x.b.v.ownBlock = some k ∨ x.f.v.ownBlock = some k) : k ∈ h.all lx :=
  List.mem_append_right _ (List.mem_flatMap.2 ⟨x, hx, by unfold Mr.bs; rw [List.mem_append, mem_otl, mem_otl]; exact e⟩)
theorem AccP.keep {w w' : World} {p : Nat → Prop} {h : Hd} {lx : List Mr} {A : Acc} (o : AccP w h lx A) (k : Keeps w w' p) (hp : ∀ q ∈ h.all lx, ¬ p q) : AccP w' h lx A :=
  ⟨own_keep o.b k fun q hq => hp q (Hd.all_b hq), own_keep o.s k fun q hq => hp q (Hd.all_s hq), own_keep o.n k fun q hq => hp q (Hd.all_n hq), own_keep o.m k fun q hq => hp q (Hd.all_m hq), o.ml,
   fun x hx => ⟨own_keep (o.mb x hx).1 k fun q hq => hp q (Hd.all_x hx (.inl hq)), own_keep (o.mb x hx).2 k fun q hq => hp q (Hd.all_x hx (.inr hq))⟩⟩
theorem AccO.p {w : World} {B : Nat} {h : Hd} {lx : List Mr} {A : Acc} (o : AccO w B h lx A) : AccP w h lx A :=
  ⟨own_base o.b (Nat.zero_le _), own_base o.s (Nat.zero_le _), own_base o.n (Nat.zero_le _), own_base o.m (Nat.zero_le _), o.ml, fun x hx => ⟨own_base (o.mb x hx).1 (Nat.zero_le _), own_base (o.mb x hx).2 (Nat.zero_le _)⟩⟩
theorem AccP.read {w : World} {h : Hd} {lx : List Mr} {A : Acc} (o : AccP w h lx A) : AccR w h A :=
  ⟨own_rowO o.b, ⟨lx, o.ml, own_rowO o.m, fun x hx => ⟨own_rowO (o.mb x hx).1, own_rowO (o.mb x hx).2⟩⟩, own_rowO o.s, own_rowO o.n⟩
theorem AccP.stab {w : World} {h : Hd} {lx : List Mr} {A : Acc} (o : AccP w h lx A) : StabA w h A := fun w' k => (o.keep k fun q hq e => by
  obtain ⟨cs, hv⟩ := e
  unfold Hd.all Hd.bs at hq
  simp only [List.mem_append, mem_otl] at hq
  rcases hq with (((hq | hq) | hq) | hq) | hq
  · exact hv.elim (fun hv => own_ne_of o.b hv (by decide) q hq rfl) (fun hv => own_ne_of o.b hv (by decide) q hq rfl)
  · exact hv.elim (fun hv => own_ne_of o.s hv (by decide) q hq rfl) (fun hv => own_ne_of o.s hv (by decide) q hq rfl)
  · exact hv.elim (fun hv => own_ne_of o.n hv (by decide) q hq rfl) (fun hv => own_ne_of o.n hv (by decide) q hq rfl)
  · exact hv.elim (fun hv => own_ne_of o.m hv (by decide) q hq rfl) (fun hv => own_ne_of o.m hv (by decide) q hq rfl)
  · obtain ⟨x, hx, hq⟩ := List.mem_flatMap.1 hq
    unfold Mr.bs at hq
    rw [List.mem_append, mem_otl, mem_otl] at hq
    rcases hq with hq | hq
    · exact hv.elim (fun hv => own_ne_of (o.mb x hx).1 hv (by decide) q hq rfl) (fun hv => own_ne_of (o.mb x hx).1 hv (by decide) q hq rfl)
    · exact hv.elim (fun hv => own_ne_of (o.mb x hx).2 hv (by decide) q hq rfl) (fun hv => own_ne_of (o.mb x hx).2 hv (by decide) q hq rfl)).read
abbrev from_ (B : Nat) : Nat → Prop := fun k => B ≤ k
theorem findA_eq (l : List Ml) (id : Int) : findA l id = findL l id := rfl
theorem Drf.keep {w w' : World} {B b : Nat} {h : Hd} {lx : List Mr} {A : Acc} (d : Drf w B b h lx A) (k : Keeps w w' none_) : Drf w' B b h lx A := ⟨d.v.keep0 k, d.o.keep k, d.lt, d.B⟩
section
variable {w : World}
set_option maxHeartbeats 4000000 in
theorem ac_of {B b : Nat} {h : Hd} {lx : List Mr} {A : Acc} {v : Ov} {o : Opr} (hd : Drf w B b h lx A) (hl : A.mails.length ≤ 100000) :
    Calls Tryz.prog 75 #[.pointer (some ⟨b, 0, none⟩), .agg (opC v o).toArray] w fun e w' => (match ofA A o with
      | .error c => e = .returned (.tuple #[.pointer none, .int .i64 (c : Nat)])
      | .ok m => ∃ i g, ∃ hi : i < lx.length, e = .returned (.tuple #[.pointer (some ⟨g, 0 + i * 38, none⟩), .int .i64 0]) ∧ h.M.a = some ⟨g, 0, none⟩ ∧ lx[i].m = m ∧ m.id = o.id ∧ ∀ j (hj : j < i), (lx[j]'(by omega)).m.id ≠ o.id) ∧ Keeps w w' none_ := by
  have hlx : lx.length = A.mails.length := by rw [← hd.o.ml, List.length_map]
  refine calls_of_vc (args := [.pointer (some ⟨b, 0, none⟩), .agg (opC v o).toArray]) Tryz.func75 rfl (Nat.le_of_ble_eq_true rfl) ?_; refine Sat.go hmix ?_; conv => whnf
  have a_b1 := at_fresh w 28 (opC v o)
  have v_b1 := VarK.new w 28 (opC v o)
  have k_w1 : Keeps w (w.alloc (.cells (List.toArray (opC v o)) 28)) none_ := (Keeps.refl _ _).alloc _
  have z_w1 : (w.alloc (.cells (List.toArray (opC v o)) 28)).heap.size = w.heap.size + 1 := by simp
  generalize w.alloc (.cells (List.toArray (opC v o)) 28) = w1 at *
  generalize hs_b1 : w.heap.size = b1 at *
  have r_w1 : Keeps w1 w1 none_ := Keeps.refl _ _
  have hdA := hd.v.at
  refine KGO ?_
  refine CallS.of (Tryz.call40 _ _) (ac_place (w := w1.drew) (h := h) (A := A) o.id (hd.o.read.keep k_w1.drew) (by omega)) ?_
  rintro e w2 ⟨rfl, k2⟩
  have J2 : Keeps w1 w2 none_ := (Keeps.refl w1 none_).drew.trans0 k2
  have K2 := k_w1.trans0 J2
  refine ⟨_, rfl, ?_⟩; (first | refine Then.go hmix ?_ | refine Sat.go hmix ?_ | refine ResK.go ?_ | skip); conv => whnf
  have o6 := own_keep0 hd.o.m K2
  rcases place_find A.mails o.id with ⟨hp, hf⟩ | ⟨i, hi, hp, hf, hid, hfirst⟩
  · rw [hp]
    have hof : ofA A o = .error 5 := by unfold ofA; rw [findA_eq, hf]
    rw [hof]
    refine KGO ?_
    exact ⟨rfl, K2⟩
  · rw [hp]
    have hi2 : i < lx.length := by omega
    have hml := hd.o.ml
    have hxm : ∀ j (hj : j < lx.length), (lx[j]).m = A.mails[j]'(by omega) := fun j hj => by simp [← hml]
    rcases own_blockK o6 with ⟨h1, h0⟩ | ⟨g, cap, cells, he6, hBg, hv, hnc, hcm, hcl, htk⟩
    · omega
    have hma : h.M.a = some ⟨g, 0, none⟩ := by injection he6
    have hmn : h.M.n = lx.length := by injection he6
    have hrow : At w2 g 0 (lx.flatMap mrC) := by
      have := own_rowO o6
      obtain ⟨a, c, e1, e2⟩ := this
      obtain ⟨g', o', e3, _, e4⟩ := e2 (by omega)
      injection e1 with e1 _ _
      rw [hma, e3] at e1
      injection e1 with e1
      injection e1 with e1 e5
      subst e1; subst e5
      exact e4
    have hd2 := at_mono hdA K2
    unfold accC at hd2
    rw [hma, hmn] at hd2
    have kr : Keeps w2 w2 none_ := Keeps.refl _ _
    have hmod : lx[i].m.mod = A.mails[i].mod := by rw [hxm]
    have hres : ∀ m, A.mails[i] = m → ∃ i' g', ∃ hi : i' < lx.length, Ending.returned (.tuple #[.pointer (some ⟨g, 0 + i * 38, none⟩), .int .i64 0]) = .returned (.tuple #[.pointer (some ⟨g', 0 + i' * 38, none⟩), .int .i64 0]) ∧ h.M.a = some ⟨g', 0, none⟩ ∧ lx[i'].m = m ∧ m.id = o.id ∧ ∀ j (hj : j < i'), (lx[j]'(by omega)).m.id ≠ o.id := fun m hm =>
      ⟨i, g, hi2, rfl, hma, by rw [hxm]; exact hm, by rw [← hm]; exact hid, fun j hj => by rw [hxm]; exact hfirst j hj⟩
    by_cases h1 : 0 ≤ o.if_
    · by_cases h2 : o.if_ = lx[i].m.mod
      · have hof : ofA A o = .ok A.mails[i] := by unfold ofA; rw [findA_eq, hf]; dsimp only; rw [if_neg (fun h => h.2 (by rw [← hmod]; exact h2))]
        rw [hof]
        refine KGO ?_
        exact ⟨hres _ rfl, K2.drew⟩
      · have hof : ofA A o = .error 17 := by unfold ofA; rw [findA_eq, hf]; dsimp only; rw [if_pos ⟨h1, fun e => h2 (by rw [hmod]; exact e)⟩]
        rw [hof]
        refine KGO ?_
        exact ⟨rfl, K2.drew⟩
    · have hof : ofA A o = .ok A.mails[i] := by unfold ofA; rw [findA_eq, hf]; dsimp only; rw [if_neg (fun h => h1 h.1)]
      rw [hof]
      refine KGO ?_
      exact ⟨hres _ rfl, K2.drew⟩
end
end Go.Proofs.YtohhkegmbgancaaGreatDoor

-- alias Tryz
namespace Go.Proofs.YtohhkegmbgancaaGreatDoor
open Go.RowKit Go.Pw Go.Vc Go.Cs Go.Lib
set_option linter.unusedVariables false
set_option maxRecDepth 100000
theorem filt_step {α : Type} {p : α → Bool} {l : List α} {j : Nat} (h : j < l.length) : (l.take (j + 1)).filter p = (l.take j).filter p ++ (if p l[j] = true then [l[j]] else []) := by
  rw [List.take_succ_eq_append_getElem h, List.filter_append]
  congr 1
  by_cases hp : p l[j] = true
  · rw [if_pos hp, List.filter_cons_of_pos hp]; rfl
  · rw [if_neg hp, List.filter_cons_of_neg hp]; rfl
set_option maxHeartbeats 8000000 in
theorem dlf_T {w : World} {v : Value} {B : Nat} (l : List (List UInt8)) (g : Nat) (c0 : Value) (p : (List UInt8) → Bool) (ho : OwnT w B v l) (hl : l.length ≤ 8796093022208) (hg : ∀ (args : Array Value) (w : World), (callFunc g args).run Tryz.prog w = .ok (.enter g args) w)
    (hp : ∀ x ∈ l, ∀ w', Keeps w w' (own_ v) → Calls Tryz.prog g #[.string (str x), c0] w' fun e w'' => e = .returned (.bool (p x)) ∧ Keeps w' w'' none_) :
    Calls Tryz.prog 76 #[v, .func (.func g) #[] #[c0]] w fun e w' => ∃ v', e = .returned v' ∧ OwnT w' B v' (l.filter fun x => !p x) ∧ Keeps w w' (own_ v) ∧ (v'.ownBlock = v.ownBlock) := by
  obtain ⟨a, cap0, rfl⟩ := own_shape ho
  refine calls_of_vc (args := [.slice a l.length cap0, .func (.func g) #[] #[c0]]) Tryz.func76 rfl (Nat.le_of_ble_eq_true rfl) ?_; refine Sat.go hmix ?_; conv => whnf
  refine CallS.of (Tryz.call142 _ _) (ixf_T1 l g c0 p (own_rowO ho) hl hg (fun x hx w' k => hp x hx w' k.of_none)) ?_
  rintro e w1 ⟨rfl, k1⟩
  refine ⟨_, rfl, ?_⟩; (first | refine Then.go hmix ?_ | refine Sat.go hmix ?_ | refine ResK.go ?_ | skip); conv => whnf
  rcases idxP_lt p l with hi | ⟨i0, hi0, he0, hp0, hb0⟩
  · rw [hi]
    refine KGO ?_
    refine ⟨_, rfl, ?_, k1.of_none, rfl⟩
    have hf : (l.filter fun x => !p x) = l := List.filter_eq_self.2 fun x hx => by
      have h : ¬ l.any p = true := fun h => by have := (idxP_any p l).2 h; omega
      have := List.any_eq_false.1 (by simpa using h) x hx
      simpa using this
    rw [hf]
    exact own_keep0 ho k1
  rw [he0]
  rcases own_blockK ho with ⟨hnil, h0⟩ | ⟨gb, cap, cells0, hev, hBg, hv0, hnc, hcm, hcl0, htk0⟩
  · omega
  injection hev with hev _ hcc
  subst hev; subst hcc
  have hgk : gb < w1.heap.size := Nat.lt_of_lt_of_le hv0.lt k1.size
  have ho1 := own_keep0 ho k1
  have hfl0 : ((l.take (i0 + 1)).filter fun x => !p x) = l.take i0 := by
    rw [filt_step hi0, hp0]
    have : (l.take i0).filter (fun x => !p x) = l.take i0 := List.filter_eq_self.2 fun x hx => by
      obtain ⟨j, hj, rfl⟩ := List.mem_take_iff_getElem.1 hx
      rw [hb0 j (by omega)]; rfl
    rw [this]; simp
  refine KGO ?_
  refine Loop.intro (ι := Nat × Nat × List (List UInt8)) (fun q => [(0, .slice (some ⟨gb, 0, none⟩) l.length cap0), (1, .func (.func g) #[] #[c0]), (5, .int .i64 (q.1 : Nat)), (6, .int .i64 (q.2.1 : Nat))])
    (fun q wr => Keeps w wr (one_ gb) ∧ q.2.1 ≤ l.length ∧ q.1 < q.2.1 ∧ q.2.2.length = l.length ∧ q.2.2.take q.1 = ((l.take q.2.1).filter fun x => !p x) ∧ q.2.2.drop q.2.1 = l.drop q.2.1 ∧ OwnT wr B (.slice (some ⟨gb, 0, none⟩) q.2.2.length cap0) q.2.2)
    (fun q => l.length - q.2.1) (i0, i0 + 1, l) ⟨rfl, rfl, rfl, v_int (by simp), trivial⟩ ⟨k1.of_none, by dsimp only; omega, by dsimp only; omega, rfl, by dsimp only; rw [hfl0], rfl, ho1⟩ ?_
  clear ho1 hfl0 hb0 hp0 he0 hi0 i0
  rintro ⟨i, j, cur⟩ gg wr ⟨hK, hj, hij, hcl2, htk2, hdr2, ho2⟩
  dsimp only at hj hij hcl2 htk2 hdr2 ho2 ⊢
  rcases own_blockK ho2 with ⟨h, h0⟩ | ⟨g2, cap, cells, hev, hBg2, hv, hnc2, hcm2, hcl, htk⟩
  · cases h
  injection hev with hev _ hcc
  injection hev with hev
  injection hev with hev
  subst hev; subst hcc
  have hrow := at_of_own ho2
  have kr : Keeps wr wr none_ := Keeps.refl _ _
  (first | refine Then.go hmix ?_ | refine Sat.go hmix ?_ | refine ResK.go ?_ | skip); conv => whnf
  by_cases hlt : j < l.length
  · have hcj : cur[j]'(by omega) = l[j] := by
      have h1 : (cur.drop j)[0]? = (l.drop j)[0]? := by rw [hdr2]
      rw [List.getElem?_drop, List.getElem?_drop, Nat.add_zero, List.getElem?_eq_getElem (by omega), List.getElem?_eq_getElem hlt] at h1
      exact Option.some.inj h1
    have hfs := filt_step (p := fun x => !p x) hlt
    have hjc : j < cur.length := by omega
    obtain ⟨q, hq⟩ : ∃ q, p l[j] = q := ⟨_, rfl⟩
    have hmx := List.getElem_mem hlt
    rw [hq] at hfs
    have hcx := at_txt hrow (i := j) (by omega)
    refine KGO ?_
    rw [hcj]
    generalize hxj : l[j] = x at *
    have hpc := hp x hmx wr (hK.mono fun q _ hq => by have hq : q = gb := hq; rw [hq]; rfl)
    rw [hq] at hpc
    refine CallS.of (hg _ _) hpc ?_
    rintro e w1 ⟨rfl, k1⟩
    refine ⟨_, rfl, ?_⟩; (first | refine Then.go hmix ?_ | refine Sat.go hmix ?_ | refine ResK.go ?_ | skip); conv => whnf
    cases q with
    | true =>
      refine KGO ?_
      refine ⟨(i, j + 1, cur), ⟨rfl, rfl, rfl, v_int (by simp), trivial⟩, ⟨hK.trans0 k1, by dsimp only; omega, by dsimp only; omega, hcl2, ?_, ?_, own_keep0 ho2 k1⟩, by dsimp only; omega⟩
      · dsimp only
        rw [hfs, htk2]; simp
      · dsimp only
        rw [← List.drop_drop, hdr2, List.drop_drop]
    | false =>
      refine KGO ?_
      have hv := hv.keep0 k1
      refine Store.atK hv (i := 0 + i) (by omega) (by rfl) ⟨rfl, by simp, by simp⟩ fun w2 v2 k2 => ?_
      rw [Nat.zero_add] at v2
      have o2 := own_setK (w := w1) lenT (l := cur) (k := i) (j := 0) (x := x) (by omega) (by decide) rfl hBg (by omega) hcm hcl htk (by rw [Nat.mul_one, Nat.add_zero]; exact v2)
      refine KGO ?_
      have hil : i < cur.length := by omega
      refine ⟨(i + 1, j + 1, cur.set i x), ⟨rfl, rfl, v_int (by simp), v_int (by simp), trivial⟩, ⟨hK.trans' (k1.of_none.trans' k2), by dsimp only; omega, by dsimp only; omega, by dsimp only; rw [List.length_set]; exact hcl2, ?_, ?_, ?_⟩, by dsimp only; omega⟩
      · dsimp only
        rw [hfs, ← htk2, List.take_succ_eq_append_getElem (by rw [List.length_set]; exact hil), List.getElem_set_self, List.take_set_of_le (Nat.le_refl _)]
        simp
      · dsimp only
        rw [List.drop_set_of_lt (by omega), ← List.drop_drop, hdr2, List.drop_drop]
      · dsimp only
        unfold OwnT
        rw [List.length_set]
        exact o2
  · have hjl : j = l.length := by omega
    subst hjl
    rw [List.take_length] at htk2
    have hil : i < cur.length := by omega
    refine KGO ?_
    rw [if_neg (by omega : ¬ i = cap0)]
    refine RunN.clearK (s := 1) (n := l.length - i) Tryz.underlying26 textInfo rfl (by intro u hu; simp [Value.cells] at hu; first | (subst hu; rfl) | (rcases hu with rfl | rfl <;> rfl)) hv (by first | (rw [hcl]; omega) | omega) fun w3 zs hzl v3 k3 => ?_
    refine KGO ?_
    have hle : (l.filter fun x => !p x).length = i := by rw [← htk2, List.length_take]; omega
    rw [if_neg (by omega : ¬ 0 = cap0), Nat.sub_zero, Nat.sub_zero]
    refine ⟨_, rfl, ?_, ((hK.trans' k3).mono fun q _ hq => by have hq : q = gb := hq; rw [hq]; rfl), rfl⟩
    have htA : cells.take (0 + i * 1) = (l.filter fun x => !p x).flatMap txC := by
      rw [Nat.zero_add, ← htk2, ← flatK_take txC 1 lenT, ← htk, List.take_take, Nat.min_eq_left (by omega)]
    have hlA : ((l.filter fun x => !p x).flatMap txC).length = i * 1 := by rw [flatK_len txC 1 lenT, hle]
    first | rw [htA] at v3 | (rw [show 0 + i * 1 = 0 + i by omega] at htA; rw [htA] at v3)
    unfold OwnT
    rw [hle]
    refine own_ofK hBg v3 (by omega) hcm2 ?_ ?_ hlA
    · rw [List.length_append, List.length_append, hlA, hzl, List.length_drop]; omega
    · rw [List.append_assoc, ← hlA, List.take_left]
set_option maxHeartbeats 8000000 in
theorem dlf_Sn {w : World} {v : Value} {B : Nat} (l : List Sn) (g : Nat) (c0 : Value) (p : Sn → Bool) (ho : OwnSn w B v l) (hl : l.length ≤ 1000000) (hg : ∀ (args : Array Value) (w : World), (callFunc g args).run Tryz.prog w = .ok (.enter g args) w)
    (hp : ∀ x ∈ l, ∀ w', Keeps w w' (own_ v) → Calls Tryz.prog g #[.agg (snC x).toArray, c0] w' fun e w'' => e = .returned (.bool (p x)) ∧ Keeps w' w'' none_) :
    Calls Tryz.prog 89 #[v, .func (.func g) #[] #[c0]] w fun e w' => ∃ v', e = .returned v' ∧ OwnSn w' B v' (l.filter fun x => !p x) ∧ Keeps w w' (own_ v) ∧ (v'.ownBlock = v.ownBlock) := by
  obtain ⟨a, cap0, rfl⟩ := own_shape ho
  refine calls_of_vc (args := [.slice a l.length cap0, .func (.func g) #[] #[c0]]) Tryz.func89 rfl (Nat.le_of_ble_eq_true rfl) ?_; refine Sat.go hmix ?_; conv => whnf
  refine CallS.of (Tryz.call152 _ _) (ixf_Sn1 l g c0 p (own_rowO ho) hl hg (fun x hx w' k => hp x hx w' k.of_none)) ?_
  rintro e w1 ⟨rfl, k1⟩
  refine ⟨_, rfl, ?_⟩; (first | refine Then.go hmix ?_ | refine Sat.go hmix ?_ | refine ResK.go ?_ | skip); conv => whnf
  rcases idxP_lt p l with hi | ⟨i0, hi0, he0, hp0, hb0⟩
  · rw [hi]
    refine KGO ?_
    refine ⟨_, rfl, ?_, k1.of_none, rfl⟩
    have hf : (l.filter fun x => !p x) = l := List.filter_eq_self.2 fun x hx => by
      have h : ¬ l.any p = true := fun h => by have := (idxP_any p l).2 h; omega
      have := List.any_eq_false.1 (by simpa using h) x hx
      simpa using this
    rw [hf]
    exact own_keep0 ho k1
  rw [he0]
  rcases own_blockK ho with ⟨hnil, h0⟩ | ⟨gb, cap, cells0, hev, hBg, hv0, hnc, hcm, hcl0, htk0⟩
  · omega
  injection hev with hev _ hcc
  subst hev; subst hcc
  have hgk : gb < w1.heap.size := Nat.lt_of_lt_of_le hv0.lt k1.size
  have ho1 := own_keep0 ho k1
  have hfl0 : ((l.take (i0 + 1)).filter fun x => !p x) = l.take i0 := by
    rw [filt_step hi0, hp0]
    have : (l.take i0).filter (fun x => !p x) = l.take i0 := List.filter_eq_self.2 fun x hx => by
      obtain ⟨j, hj, rfl⟩ := List.mem_take_iff_getElem.1 hx
      rw [hb0 j (by omega)]; rfl
    rw [this]; simp
  refine KGO ?_
  refine Loop.intro (ι := Nat × Nat × List Sn) (fun q => [(0, .slice (some ⟨gb, 0, none⟩) l.length cap0), (1, .func (.func g) #[] #[c0]), (5, .int .i64 (q.1 : Nat)), (6, .int .i64 (q.2.1 : Nat))])
    (fun q wr => Keeps w wr (one_ gb) ∧ q.2.1 ≤ l.length ∧ q.1 < q.2.1 ∧ q.2.2.length = l.length ∧ q.2.2.take q.1 = ((l.take q.2.1).filter fun x => !p x) ∧ q.2.2.drop q.2.1 = l.drop q.2.1 ∧ OwnSn wr B (.slice (some ⟨gb, 0, none⟩) q.2.2.length cap0) q.2.2)
    (fun q => l.length - q.2.1) (i0, i0 + 1, l) ⟨rfl, rfl, rfl, v_int (by simp), trivial⟩ ⟨k1.of_none, by dsimp only; omega, by dsimp only; omega, rfl, by dsimp only; rw [hfl0], rfl, ho1⟩ ?_
  clear ho1 hfl0 hb0 hp0 he0 hi0 i0
  rintro ⟨i, j, cur⟩ gg wr ⟨hK, hj, hij, hcl2, htk2, hdr2, ho2⟩
  dsimp only at hj hij hcl2 htk2 hdr2 ho2 ⊢
  rcases own_blockK ho2 with ⟨h, h0⟩ | ⟨g2, cap, cells, hev, hBg2, hv, hnc2, hcm2, hcl, htk⟩
  · cases h
  injection hev with hev _ hcc
  injection hev with hev
  injection hev with hev
  subst hev; subst hcc
  have hrow := at_of_own ho2
  have kr : Keeps wr wr none_ := Keeps.refl _ _
  (first | refine Then.go hmix ?_ | refine Sat.go hmix ?_ | refine ResK.go ?_ | skip); conv => whnf
  by_cases hlt : j < l.length
  · have hcj : cur[j]'(by omega) = l[j] := by
      have h1 : (cur.drop j)[0]? = (l.drop j)[0]? := by rw [hdr2]
      rw [List.getElem?_drop, List.getElem?_drop, Nat.add_zero, List.getElem?_eq_getElem (by omega), List.getElem?_eq_getElem hlt] at h1
      exact Option.some.inj h1
    have hfs := filt_step (p := fun x => !p x) hlt
    have hjc : j < cur.length := by omega
    obtain ⟨q, hq⟩ : ∃ q, p l[j] = q := ⟨_, rfl⟩
    have hmx := List.getElem_mem hlt
    rw [hq] at hfs
    refine KGO ?_
    rw [hcj]
    generalize hxj : l[j] = x at *
    refine Store.fresh (vs := snC x) (by rfl) rfl (flat_of (by rfl)) ?_
    have a_b7 := at_fresh wr 78 (snC x)
    have k_wv : Keeps wr (wr.alloc (.cells (List.toArray (snC x)) 78)) none_ := (Keeps.refl _ _).alloc _
    have z_wv : (wr.alloc (.cells (List.toArray (snC x)) 78)).heap.size = wr.heap.size + 1 := by simp
    generalize wr.alloc (.cells (List.toArray (snC x)) 78) = wv at *
    generalize hs_b7 : wr.heap.size = b7 at *
    refine KGO ?_
    have hpc := hp x hmx wv ((hK.trans0 k_wv).mono fun q _ hq => by have hq : q = gb := hq; rw [hq]; rfl)
    rw [hq] at hpc
    refine CallS.of (hg _ _) hpc ?_
    rintro e w1 ⟨rfl, k1⟩
    refine ⟨_, rfl, ?_⟩; (first | refine Then.go hmix ?_ | refine Sat.go hmix ?_ | refine ResK.go ?_ | skip); conv => whnf
    cases q with
    | true =>
      refine KGO ?_
      refine ⟨(i, j + 1, cur), ⟨rfl, rfl, rfl, v_int (by simp), trivial⟩, ⟨(hK.trans0 k_wv).trans0 k1, by dsimp only; omega, by dsimp only; omega, hcl2, ?_, ?_, own_keep0 (own_keep0 ho2 k_wv) k1⟩, by dsimp only; omega⟩
      · dsimp only
        rw [hfs, htk2]; simp
      · dsimp only
        rw [← List.drop_drop, hdr2, List.drop_drop]
    | false =>
      refine KGO ?_
      have hv := (hv.keep0 k_wv).keep0 k1
      refine Store.elemK (l := cur) (k := i) (B := B) (cap := cap0) x lenSn (by rfl) (flat_of (by rfl)) hv hBg (by omega) hcm hcl htk (by omega) fun w2 o2 v2 k2 => ?_
      refine KGO ?_
      have hil : i < cur.length := by omega
      refine ⟨(i + 1, j + 1, cur.set i x), ⟨rfl, rfl, v_int (by simp), v_int (by simp), trivial⟩, ⟨(hK.trans0 k_wv).trans' (k1.of_none.trans' k2), by dsimp only; omega, by dsimp only; omega, by dsimp only; rw [List.length_set]; exact hcl2, ?_, ?_, ?_⟩, by dsimp only; omega⟩
      · dsimp only
        rw [hfs, ← htk2, List.take_succ_eq_append_getElem (by rw [List.length_set]; exact hil), List.getElem_set_self, List.take_set_of_le (Nat.le_refl _)]
        simp
      · dsimp only
        rw [List.drop_set_of_lt (by omega), ← List.drop_drop, hdr2, List.drop_drop]
      · dsimp only
        unfold OwnSn
        rw [List.length_set]
        exact o2
  · have hjl : j = l.length := by omega
    subst hjl
    rw [List.take_length] at htk2
    have hil : i < cur.length := by omega
    refine KGO ?_
    rw [if_neg (by omega : ¬ i = cap0)]
    refine RunN.clearK (s := 2) (n := l.length - i) Tryz.underlying34 infoSn rfl (by intro u hu; simp [Value.cells] at hu; first | (subst hu; rfl) | (rcases hu with rfl | rfl <;> rfl)) hv (by first | (rw [hcl]; omega) | omega) fun w3 zs hzl v3 k3 => ?_
    refine KGO ?_
    have hle : (l.filter fun x => !p x).length = i := by rw [← htk2, List.length_take]; omega
    rw [if_neg (by omega : ¬ 0 = cap0), Nat.sub_zero, Nat.sub_zero]
    refine ⟨_, rfl, ?_, ((hK.trans' k3).mono fun q _ hq => by have hq : q = gb := hq; rw [hq]; rfl), rfl⟩
    have htA : cells.take (0 + i * 2) = (l.filter fun x => !p x).flatMap snC := by
      rw [Nat.zero_add, ← htk2, ← flatK_take snC 2 lenSn, ← htk, List.take_take, Nat.min_eq_left (by omega)]
    have hlA : ((l.filter fun x => !p x).flatMap snC).length = i * 2 := by rw [flatK_len snC 2 lenSn, hle]
    first | rw [htA] at v3 | (rw [show 0 + i * 2 = 0 + i by omega] at htA; rw [htA] at v3)
    unfold OwnSn
    rw [hle]
    refine own_ofK hBg v3 (by omega) hcm2 ?_ ?_ hlA
    · rw [List.length_append, List.length_append, hlA, hzl, List.length_drop]; omega
    · rw [List.append_assoc, ← hlA, List.take_left]
end Go.Proofs.YtohhkegmbgancaaGreatDoor

-- alias Tryz
namespace Go.Vc
open Go Go.Pw Go.RowKit
theorem RunN.appNone {P : Program} {w : World} {K : Value → World → Prop} {t ty e : TypeId} {cs : Array Bool} {B s n c bytes : Nat} {z v : Value} {xs : List Value} (ht : P.underlying t = some (.slice e)) (hb : (P.info? e).map (fun i => (i.zero, i.size, i.bytes)) = some (some z, s, bytes))
    (hown : w.ownsRow B e s v n xs) (k : K v w) : RunN P (builtin .append #[t, t] ty cs [v, .slice none 0 c].toArray) w K := by
  obtain ⟨i, hi, _, _, _⟩ := info_one hb
  refine ⟨v, w, ?_, k⟩
  show (do pure (Next.value (← Builtin.append_ #[t, t] ty #[v, .slice none 0 c])) : Sem Next).run P w = _
  rcases hown.2 with ⟨rfl, rfl⟩ | ⟨g, cap, cur, rfl, _, _, hnc, _⟩
  · simp [Builtin.append_, run_underlying ht, sizeOf, typeInfo, hi, Builtin.lenOf, Builtin.firstCells]
  · simp [Builtin.append_, run_underlying ht, sizeOf, typeInfo, hi, Builtin.lenOf, Builtin.firstCells, hnc, storeCells]
/-- 'append(nil, make([]T, m)...)'. -/
theorem RunN.zeros0 {P : Program} {w : World} {K : Value → World → Prop} {t tn ty e : TypeId} {cs : Array Bool} {s bytes : Nat} {z : Value} {kq kn : IntKind} (ht : P.underlying t = some (.slice e)) (htn : P.underlying tn = some (.int kn)) (hb : (P.info? e).map (fun i => (i.zero, i.size, i.bytes)) = some (some z, s, bytes)) (hz : z.cells.size = s) (hs : 0 < s) {m : Nat} (h0 : 0 < m)
    (h63 : m ≤ 9223372036854775807) (hbytes : m * bytes ≤ 140737488355328)
    (k : ∀ w' cells c', VarK w' w.heap.size e cells → cells.length = c' * s → m ≤ c' → c' ≤ maxLen → Keeps w w' none_ → K (.slice (some ⟨w.heap.size, 0, none⟩) m c') w') :
    RunN P (builtin .append #[t, tn] ty cs [.slice none 0 0, .int kq (m : Nat)].toArray) w K := by
  obtain ⟨i, hi, z1, rfl, rfl⟩ := info_one hb
  have hr := Lib.run_append_grow_zeros (P := P) w t tn ty e i z kq kn ht htn hi z1 none 0 0 [] (by simp [Builtin.firstCells]) m h0 hs (by omega) (by omega) (by omega) (fits48 (by omega) (by simpa using hbytes))
  have hge := grownCap_ge w (0 + m) 0 e
  rw [Nat.zero_add] at hr hge
  refine ⟨_, w.drew.alloc (.cells ([].toArray ++ Builtin.zeroCells z.cells m ++ Builtin.zeroCells z.cells (grownCap w m 0 e - m)) e), ?_, k _ (Builtin.zeroCells z.cells m ++ Builtin.zeroCells z.cells (grownCap w m 0 e - m)).toList _ ?_ ?_ hge (grownCap_le_maxLen w m 0 e (by rw [show maxLen = 9223372036854775807 from rfl]; exact h63)) ?_⟩
  · show (do pure (Next.value (← Builtin.append_ #[t, tn] ty #[.slice none 0 0, .int kq (m : Nat)])) : Sem Next).run P w = _
    simp only [Sem.run_bind, hr, Result.andThen_ok]
    rfl
  · have := heap_alloc_new w.drew (.cells ([].toArray ++ Builtin.zeroCells z.cells m ++ Builtin.zeroCells z.cells (grownCap w m 0 e - m)) e)
    unfold VarK
    rw [show ((Builtin.zeroCells z.cells m ++ Builtin.zeroCells z.cells (grownCap w m 0 e - m)).toList).toArray = [].toArray ++ Builtin.zeroCells z.cells m ++ Builtin.zeroCells z.cells (grownCap w m 0 e - m) by apply Array.ext'; simp]
    exact this
  · rw [Array.length_toList, Array.size_append, size_zeroCells, size_zeroCells, hz, ← Nat.add_mul]
    congr 1
    omega
  · exact (Keeps.refl w none_).drew.alloc _
end Go.Vc
namespace Go.Proofs.YtohhkegmbgancaaGreatDoor
open Go.Shelf Go.RowKit Go.Pw Go.Vc Go.Cs Go.Lib
set_option linter.unusedVariables false
set_option maxRecDepth 100000
section
variable {w : World}
theorem nil_to {f : Fr} {y : Operand} (w : World) (hy : ev f y = .int .i64 ((0 : Nat) : Int) := by rfl) : (Instr.sliceAt 26 (.slice none 0 0) none ((some y).map (ev f)) none).run Tryz.prog w = .ok (.slice none 0 0) w := by
  obtain ⟨i, hi, _, hs, _⟩ := info_one textInfo
  simp [Instr.sliceAt, hy, Instr.slice, Instr.sliceBounds, go_sem, und_ok Tryz.underlying26, size_ok hi]
set_option maxHeartbeats 2000000 in
theorem gr_T (n : Nat) (hn : n ≤ 8796093022208) : Calls Tryz.prog 143 #[.slice none 0 0, .int .i64 (n : Nat)] w fun e w' => ∃ v, e = .returned v ∧ OwnT w' w.heap.size v [] ∧ Keeps w w' none_ := by
  refine calls_of_vc (args := [.slice none 0 0, .int .i64 (n : Nat)]) Tryz.func143 rfl (Nat.le_of_ble_eq_true rfl) ?_; refine Sat.go hmix ?_; conv => whnf
  refine KGO ?_
  refine RunN.capK Tryz.underlying26 ?_
  rcases Nat.eq_zero_or_pos n with h0 | h0
  · subst h0
    refine KGO ?_
    exact ⟨_, rfl, World.ownsRow_nil _ _ _ _, Keeps.refl _ _⟩
  · refine KGO ?_
    refine RunN.capK Tryz.underlying26 ?_
    refine KGO ?_
    refine RunV.of (v := .slice none 0 0) (w' := w) (nil_to _) ?_
    refine KGO ?_
    rw [show ((n : Nat) : Int) - (((0 : Nat) : Int) - ((0 : Nat) : Int)) = ((n : Nat) : Int) by omega]
    refine RunN.zeros0 Tryz.underlying26 Tryz.underlying3 textInfo rfl (by decide) h0 (by omega) (by omega) fun w1 cells c1 v1 hl1 hc1 hm1 k1 => ?_
    refine KGO ?_
    rw [if_neg (by omega : ¬ 0 = c1), Nat.sub_zero, Nat.sub_zero]
    exact ⟨_, rfl, own_ofK (xs := []) (Nat.le_refl _) v1 (Nat.zero_le _) hm1 hl1 (by simp) rfl, k1⟩
/-- Headers of slices. -/
abbrev slC (p : Sl × List (List UInt8)) : List Value := [.slice p.1.a p.1.n p.1.c]
theorem at_sl {g o i : Nat} {l : List (Sl × List (List UInt8))} (h : At w g o (l.flatMap slC)) (hi : i < l.length) : w.cell? ⟨g, o + i, none⟩ = some (.slice l[i].1.a l[i].1.n l[i].1.c) := at_one (fun p : Sl × List (List UInt8) => Value.slice p.1.a p.1.n p.1.c) h hi
set_option maxHeartbeats 4000000 in
theorem cat_T {v : Value} (ps : List (Sl × List (List UInt8))) (hv : RowO w v slC ps) (hp : ∀ p ∈ ps, RowT w p.1.v p.2) (hl : ps.length ≤ 1000) (hn : (ps.flatMap (·.2)).length ≤ 8796093022208) : Calls Tryz.prog 77 #[v] w fun e w' => ∃ v', e = .returned v' ∧ OwnT w' w.heap.size v' (ps.flatMap (·.2)) ∧ Keeps w w' none_ := by
  obtain ⟨a, cap, rfl, hr⟩ := hv
  have hstep : ∀ i (h : i < ps.length), (ps.take (i + 1)).flatMap (·.2) = (ps.take i).flatMap (·.2) ++ ps[i].2 := fun i h => by
    rw [List.take_succ_eq_append_getElem h, List.flatMap_append]; simp
  have hle : ∀ i, ((ps.take i).flatMap (·.2)).length ≤ (ps.flatMap (·.2)).length := fun i => by
    conv => rhs; rw [← List.take_append_drop i ps, List.flatMap_append, List.length_append]
    omega
  refine calls_of_vc (args := [.slice a ps.length cap]) Tryz.func77 rfl (Nat.le_of_ble_eq_true rfl) ?_; refine Sat.go hmix ?_; conv => whnf
  refine Loop.intro (ι := Nat) (fun i => [(0, .slice a ps.length cap), (3, .int .i64 (((ps.take i).flatMap (·.2)).length : Nat)), (9, .slice a ps.length cap), (10, .int .i64 (ps.length : Nat)), (11, .int .i64 (i : Nat))])
    (fun i wr => w = wr ∧ i ≤ ps.length) (fun i => ps.length - i) 0 ⟨rfl, rfl, rfl, rfl, rfl, trivial⟩ ⟨rfl, Nat.zero_le _⟩ ?_
  rintro i gg wr ⟨rfl, hi⟩
  have kr : Keeps w w none_ := Keeps.refl _ _
  (first | refine Then.go hmix ?_ | refine Sat.go hmix ?_ | refine ResK.go ?_ | skip); conv => whnf
  by_cases hlt : i < ps.length
  · obtain ⟨gb, o, rfl, hgb, hat⟩ := hr (by omega)
    have hc := at_sl hat hlt
    have hst := hstep i hlt
    have h1 := hle i
    have h2 := hle (i + 1)
    have hln := RowO.len (hp ps[i] (List.getElem_mem hlt))
    rw [hst, List.length_append] at h2
    refine KGO ?_
    rw [hln]
    refine KGO ?_
    refine ⟨i + 1, ⟨rfl, v_int (by rw [hst, List.length_append]; omega), rfl, rfl, v_int (by simp), trivial⟩, ⟨rfl, by omega⟩, by dsimp only; omega⟩
  · have hil : ps.take i = ps := List.take_of_length_le (by omega)
    rw [hil]
    generalize hN : (ps.flatMap (·.2)).length = N at *
    refine KGO ?_
    refine CallS.of (Tryz.call143 _ _) (gr_T (w := w) N (by omega)) ?_
    rintro e w1 ⟨v1, rfl, o1, k1⟩
    obtain ⟨a1, c1, rfl⟩ := own_shape o1
    refine ⟨_, rfl, ?_⟩; (first | refine Then.go hmix ?_ | refine Sat.go hmix ?_ | refine ResK.go ?_ | skip); conv => whnf
    refine KGO ?_
    refine Loop.intro (ι := Nat × Value) (fun q => [(6, q.2), (25, .slice a ps.length cap), (26, .int .i64 (ps.length : Nat)), (27, .int .i64 (q.1 : Nat))])
      (fun q wr => Keeps w wr none_ ∧ q.1 ≤ ps.length ∧ OwnT wr w.heap.size q.2 ((ps.take q.1).flatMap (·.2))) (fun q => ps.length - q.1) (0, _) ⟨rfl, rfl, rfl, rfl, trivial⟩ ⟨k1, Nat.zero_le _, o1⟩ ?_
    rintro ⟨j, u⟩ gg2 wz ⟨hK, hj, ho⟩
    dsimp only at hj ho ⊢
    obtain ⟨au, cu, rfl⟩ := own_shape ho
    (first | refine Then.go hmix ?_ | refine Sat.go hmix ?_ | refine ResK.go ?_ | skip); conv => whnf
    by_cases hlt2 : j < ps.length
    · obtain ⟨gb, o, rfl, hgb, hat⟩ := hr (by omega)
      have hc := at_sl hat hlt2
      have hst := hstep j hlt2
      have h1 := hle j
      have h2 := hle (j + 1)
      have hrow := (hp ps[j] (List.getElem_mem hlt2)).keep hK
      have hln := RowO.len hrow
      rw [hst, List.length_append] at h2
      obtain ⟨sa, sc, he, hrr⟩ := hrow
      have hea : ps[j].1.a = sa := by injection he
      refine KGO ?_
      rw [hln, hea]
      have fin : ∀ v' w', w'.ownsRow w.heap.size 9 1 v' (((ps.take j).flatMap (·.2)).length + ps[j].2.length) ((ps.take j).flatMap (·.2) |>.flatMap txC |>.append (ps[j].2.flatMap txC)) → OwnT w' w.heap.size v' ((ps.take (j + 1)).flatMap (·.2)) := fun v' w' h => by
        unfold OwnT
        rw [hst, List.length_append, List.flatMap_append]
        exact h
      rcases sa with _ | ad
      · have h0 : ps[j].2.length = 0 := by
          rcases Nat.eq_zero_or_pos ps[j].2.length with h | h
          · exact h
          · obtain ⟨g, o, h1, _⟩ := hrr h; cases h1
        rw [h0]
        refine RunN.appNone Tryz.underlying26 textInfo ho ?_
        refine KGO ?_
        exact ⟨(j + 1, _), ⟨rfl, rfl, rfl, v_int (by simp), trivial⟩, ⟨hK, by dsimp only; omega, by dsimp only; rw [hst, List.eq_nil_of_length_eq_zero h0, List.append_nil]; exact ho⟩, by dsimp only; omega⟩
      · refine RunN.app Tryz.underlying26 textInfo rfl (by decide) ho hK.size ad ps[j].2.length _ (ps[j].2.flatMap txC) (flatK_len txC 1 lenT _) (fun m x hm => ?_) (oneT _) (by omega) (by omega) fun v' w' h2 h3 => ?_
        · rcases Nat.eq_zero_or_pos ps[j].2.length with h | h
          · rw [List.eq_nil_of_length_eq_zero h] at hm; simp at hm
          · obtain ⟨g', o', h1, _, h3⟩ := hrr h
            injection h1 with h1
            subst h1
            rw [add_none]
            exact h3 m x hm
        · obtain ⟨a', c', rfl⟩ := own_shape h2
          refine KGO ?_
          exact ⟨(j + 1, _), ⟨rfl, rfl, rfl, v_int (by simp), trivial⟩, ⟨hK.own ho (Nat.le_refl _) h3, by dsimp only; omega, fin _ _ h2⟩, by dsimp only; omega⟩
    · have hjl : ps.take j = ps := List.take_of_length_le (by omega)
      rw [hjl] at ho ⊢
      refine KGO ?_
      exact ⟨_, rfl, ho, hK⟩
end
end Go.Proofs.YtohhkegmbgancaaGreatDoor
