/- Helper text of this claim: Cy5, Cy6: lemmas and contracts that the proved statement rests on; no conditions of its own. -/
import Derived.Test.YtcplagfblmemhaaGCy2
import Derived.Test.YtcplagfblmemhaaCy3
-- alias Try
namespace Go.Proofs.Ytcplagfblmemhaa
set_option linter.unusedVariables false
open Go.Shelf Go.RowKit Go.Pw Go.Vc Go.Cs Go.Lib Go.Cd Go.Cx
set_option linter.unusedVariables false
set_option maxRecDepth 100000
def ReadOkR (w w' : World) (r : Option Bk) (e : Ending) : Prop :=
  match r with
  | none => e = .returned (.tuple #[.pointer none, .bool false])
  | some k => ∃ nb v hs, e = .returned (.tuple #[.pointer (some ⟨nb, 0, none⟩), .bool true]) ∧ w.heap.size ≤ nb ∧ RbAt w' w.heap.size nb v hs k
theorem tmod3_nat (m : Nat) : (m : Int).tmod 3 = ((m % 3 : Nat) : Int) := by rw [Int.tmod_eq_emod_of_nonneg (by omega)]; rfl
theorem noteR_var {W w' : World} {B nb r : Nat} {T : TypeId} {v : Sl} {hs : List (Int × Sl)} {k : Bk} {cs : List Value} (hb : RbAt W B nb v hs k) (hv : VarK W r T cs) (h1 : T ≠ 53) (h2 : 67 ≠ T) (kk : Keeps W w' (fun q => q = nb ∨ v.v.ownBlock = some q)) : VarK w' r T cs :=
  hv.keep kk fun e => by
    rcases e with e | e
    · have a : W.heap[nb]? = some (.cells (List.toArray [.int .i64 k.kept, .int .i64 k.state, v.v]) 53) := hb.var
      have b : W.heap[r]? = some (.cells cs.toArray T) := hv
      rw [e, a] at b
      injection b with b; injection b with b1 b2 b3
      exact h1 b2.symm
    · exact own_foreignV hb.own hv h2 e
theorem noteR_keeps {w W w' : World} {nb : Nat} {v : Sl} {hs : List (Int × Sl)} {k : Bk} (hb : RbAt W w.heap.size nb v hs k) (hnb : w.heap.size ≤ nb) (h : Keeps w W none_) (kk : Keeps W w' (fun q => q = nb ∨ v.v.ownBlock = some q)) : Keeps w w' none_ :=
  h.trans kk fun i hi e => by
    rcases e with e | e
    · omega
    · have := hb.own.lt i e; omega
section
variable {w : World}
set_option maxHeartbeats 8000000 in
theorem ry_Read (s : ByteArray) (hs : s.size ≤ 1000) : Calls Try.prog 10 #[.string s] w fun e w' => ReadOkR w w' (readA (L s)) e ∧ Keeps w w' none_ := by
  have hLs : (L s).length = s.size := rfl
  refine calls_of_vc (args := [.string s]) Try.func10 rfl (Nat.le_of_ble_eq_true rfl) ?_; refine Sat.go hmix ?_; conv => whnf
  refine CallS.of (Try.call28 _ _) (rf_Open02 s) ?_
  rintro e w3 ⟨rfl, vr, K3⟩
  refine ⟨_, rfl, ?_⟩; (first | refine Then.go hmix ?_ | refine Sat.go hmix ?_ | refine ResK.go ?_ | skip); conv => whnf
  obtain ⟨rb, hrb⟩ : ∃ rb, w.heap.size = rb := ⟨_, rfl⟩
  rw [hrb] at vr ⊢
  have hbnd : ∀ (st : St), stLen st ≤ s.size → ∀ u, st = some u → u.length ≤ 140737488355328 := by rintro st h u rfl; have h : u.length ≤ s.size := h; omega
  have hl0 : stLen (some (L s)) ≤ s.size := Nat.le_refl _
  refine CallS.of (Try.call29 _ _) (rf_RNum02 (some (L s)) vr (hbnd _ hl0)) ?_
  rintro e w4 ⟨rfl, vr4, k4⟩
  refine ⟨_, rfl, ?_⟩; (first | refine Then.go hmix ?_ | refine Sat.go hmix ?_ | refine ResK.go ?_ | skip); conv => whnf
  have hl1 := Nat.le_trans (numR_stLen (some (L s))) hl0
  have hn1 := numR_lt (some (L s))
  have hread0 : readA (L s) = (match numR (some (L s)) with | (kept, s1) => (match numR s1 with | (first, s2) => (match numR s2 with | (many, s3) => if kept < 1 ∨ 256 < kept ∨ kept < many then none else (match readG many ⟨first, kept, []⟩ s3 with | none => none | some (b, s) => if s = some [] then some b else none)))) := rfl
  have hrb1 : ∀ k, readA (L s) = some k → bytesA k = L s := fun k h => read_bytes h
  have hrb2 : ∀ k, readA (L s) = some k → ∀ l ∈ k.notes, l.length ≤ 1000 := fun k h l hl => by have := readA_small h l hl; omega
  have hrb3 : ∀ k, readA (L s) = some k → ∀ l ∈ k.notes, ∀ c ∈ l, c.id < 9223372036854775808 := fun k h => readA_ids h
  obtain ⟨R, hR⟩ : ∃ R, readA (L s) = R := ⟨_, rfl⟩
  have hread := hread0
  rw [hR] at hread hrb1 hrb2 hrb3 ⊢
  clear hread0
  obtain ⟨kept, s1, e1⟩ : ∃ kept s1, numR (some (L s)) = (kept, s1) := ⟨_, _, rfl⟩
  rw [e1] at hread vr4 hl1 hn1 ⊢
  dsimp only at hread vr4 hl1 hn1 ⊢
  refine CallS.of (Try.call29 _ _) (rf_RNum02 s1 vr4 (hbnd _ hl1)) ?_
  rintro e w5 ⟨rfl, vr5, k5⟩
  refine ⟨_, rfl, ?_⟩; (first | refine Then.go hmix ?_ | refine Sat.go hmix ?_ | refine ResK.go ?_ | skip); conv => whnf
  have hl2 := Nat.le_trans (numR_stLen s1) hl1
  have hn2 := numR_lt s1
  obtain ⟨first, s2, e2⟩ : ∃ first s2, numR s1 = (first, s2) := ⟨_, _, rfl⟩
  rw [e2] at hread vr5 hl2 hn2 ⊢
  dsimp only at hread vr5 hl2 hn2 ⊢
  refine CallS.of (Try.call29 _ _) (rf_RNum02 s2 vr5 (hbnd _ hl2)) ?_
  rintro e w6 ⟨rfl, vr6, k6⟩
  refine ⟨_, rfl, ?_⟩; (first | refine Then.go hmix ?_ | refine Sat.go hmix ?_ | refine ResK.go ?_ | skip); conv => whnf
  have hl3 := Nat.le_trans (numR_stLen s2) hl2
  have hn3 := numR_lt s2
  obtain ⟨many, s3, e3⟩ : ∃ many s3, numR s2 = (many, s3) := ⟨_, _, rfl⟩
  rw [e3] at hread vr6 hl3 hn3 ⊢
  dsimp only at hread vr6 hl3 hn3 ⊢
  have hrbw : w.heap.size ≤ rb := by omega
  have K36 : Keeps w3 w6 (one_ rb) := (k4.trans' k5).trans' k6
  have K6 : Keeps w w6 none_ := K3.trans K36 fun i hi e => by have e : i = rb := e; omega
  clear e1 e2 e3
  refine CallS.of (Try.call7 _ _) (ry_New first kept (by omega)) ?_
  rintro e w7 (⟨hbad, rfl, k7⟩ | ⟨hok, rfl, hbk, k7⟩)
  · refine ⟨_, rfl, ?_⟩; (first | refine Then.go hmix ?_ | refine Sat.go hmix ?_ | refine ResK.go ?_ | skip); conv => whnf
    have hb2 : kept < 1 ∨ 256 < kept ∨ kept < many := by omega
    rw [if_pos hb2] at hread
    rw [hread]
    refine KGO ?_
    exact ⟨rfl, K6.trans0 k7⟩
  · refine ⟨_, rfl, ?_⟩; (first | refine Then.go hmix ?_ | refine Sat.go hmix ?_ | refine ResK.go ?_ | skip); conv => whnf
    obtain ⟨nb, hnb⟩ : ∃ nb, w6.heap.size = nb := ⟨_, rfl⟩
    rw [hnb] at hbk ⊢
    have hnbw : w.heap.size ≤ nb := by have := K6.size; omega
    have vr7 := vr6.keep0 k7
    have K7 := K6.trans0 k7
    by_cases hmk : kept < many
    · rw [if_pos (by omega)] at hread
      rw [hread]
      refine KGO ?_
      exact ⟨rfl, K7⟩
    rw [if_neg (by omega)] at hread
    refine KGO ?_
    refine Loop.intro (ι := Nat × Bk × St) (fun i => [(0, .string s), (4, .pointer (some ⟨rb, 0, none⟩)), (6, .int .i64 (first : Nat)), (7, .int .i64 (many : Nat)), (8, .pointer (some ⟨nb, 0, none⟩)), (9, .int .i64 (i.1 : Nat))])
      (fun i wr => Keeps w wr none_ ∧ VarK wr rb 87 (rdC i.2.2) ∧ (∃ v hs, RbAt wr w.heap.size nb v hs i.2.1) ∧
        i.1 ≤ many ∧ i.2.1.state = first + i.1 ∧ stLen i.2.2 ≤ s.size ∧ readG many ⟨first, kept, []⟩ s3 = readG (many - i.1) i.2.1 i.2.2) (fun i => many - i.1) (0, ⟨first, kept, []⟩, s3) ⟨rfl, rfl, rfl, rfl, rfl, rfl, trivial⟩
      ⟨K7, vr7, ⟨_, _, ⟨hbk.var, own_base hbk.own hnbw, hbk.hl, fun i hi => absurd hi (Nat.not_lt_zero i), hbk.good⟩⟩, by omega, by simp, hl3, by simp⟩ ?_
    rintro ⟨i, kI, sI⟩ g wr ⟨hK, vr, ⟨v, hs', hb⟩, hi, hst, hsl, hrd⟩
    dsimp only at vr hb hi hst hsl hrd ⊢
    (first | refine Then.go hmix ?_ | refine Sat.go hmix ?_ | refine ResK.go ?_ | skip); conv => whnf
    by_cases hlt : i < many
    · refine KGO ?_
      have hsl16 : stLen sI ≤ 140737488355328 / 16 := by omega
      refine CallS.of (Try.call30 _ _) (rf_RNums02 sI vr hsl16) ?_
      rintro e w11 ⟨vN, rfl, oN, vr11, k11⟩
      have hNs : (numsR sI).1.length ≤ s.size := Nat.le_trans (numsR_len sI) hsl
      have hsl4 : stLen (numsR sI).2 ≤ s.size := Nat.le_trans (numsR_stLen sI) hsl
      obtain ⟨N, s4, hN⟩ : ∃ N s4, numsR sI = (N, s4) := ⟨_, _, rfl⟩
      rw [hN] at oN vr11 hNs hsl4
      dsimp only at oN vr11 hNs hsl4
      have oN' : w11.ownsRow wr.heap.size 3 1 vN N.length ((iL N).flatMap inC) := by have := oN; unfold OwnI at this; rw [iL_len] at this; exact this
      obtain ⟨na, nc, rfl⟩ := own_shape oN'
      refine ⟨_, rfl, ?_⟩; (first | refine Then.go hmix ?_ | refine Sat.go hmix ?_ | refine ResK.go ?_ | skip); conv => whnf
      have ne1 : ∀ q, (fun q => q = rb) q → ForeignR wr q := fun q e => by have e : q = rb := e; subst e; exact vr.foreignR (by decide) (by decide) (by decide)
      have hb11 := hb.keep k11 ne1
      have K11 : Keeps w w11 none_ := hK.trans k11 fun i hi e => by have e : i = rb := e; omega
      have hrd2 : ∀ m, many - i = m + 1 → readG many ⟨first, kept, []⟩ s3 = (match chunkC N with | none => none | some l => if (noteA kI (kI.state + 1) l).1 = 0 then readG m (noteA kI (kI.state + 1) l).2 s4 else none) := fun m hm => by rw [hrd, hm]; simp only [readG, hN]; rfl
      have hrd2 := hrd2 (many - (i + 1)) (by omega)
      rw [chunk_chgs] at hrd2
      by_cases h3 : N.length % 3 = 0
      rotate_left
      · rw [if_neg h3] at hrd2
        rw [hrd2] at hread
        rw [hread]
        refine KGO ?_
        rw [tmod3_nat]
        refine KGO ?_
        exact ⟨rfl, K11⟩
      rw [if_pos h3] at hrd2
      dsimp only at hrd2
      refine KGO ?_
      rw [tmod3_nat]
      refine KGO ?_
      refine Loop.intro (ι := Nat × Option Addr × Nat) (fun j => [(0, .string s), (4, .pointer (some ⟨rb, 0, none⟩)), (6, .int .i64 (first : Nat)), (7, .int .i64 (many : Nat)), (8, .pointer (some ⟨nb, 0, none⟩)), (9, .int .i64 (i : Nat)), (10, .slice na N.length nc), (11, .slice j.2.1 j.1 j.2.2), (12, .int .i64 ((3 * j.1 : Nat) : Int))])
        (fun j wq => Keeps w11 wq none_ ∧ 3 * j.1 ≤ N.length ∧ wq.ownsRow w11.heap.size 48 3 (.slice j.2.1 j.1 j.2.2) j.1 ((chgs N j.1).flatMap chC)) (fun j => N.length - 3 * j.1) (0, none, 0) ⟨rfl, rfl, rfl, rfl, rfl, rfl, rfl, rfl, rfl, trivial⟩ ⟨Keeps.refl _ _, by omega, World.ownsRow_nil _ _ _ _⟩ ?_
      rintro ⟨j, ja, jc⟩ gg wq ⟨hKq, hj, hoj⟩
      dsimp only at hj hoj ⊢
      (first | refine Then.go hmix ?_ | refine Sat.go hmix ?_ | refine ResK.go ?_ | skip); conv => whnf
      by_cases hlj : 3 * j < N.length
      · obtain ⟨gN, e1, _, hgN, hatN⟩ := own_at oN' (by omega)
        subst e1
        have hcell : ∀ m (hm : m < N.length), w11.cell? ⟨gN, 0 + m, none⟩ = some (.int .i64 (N.getD m 0 : Nat)) := fun m hm => by
          have := at_int hatN (i := m) (by rw [iL_len]; exact hm)
          rw [this]
          simp only [iL, List.getElem_map, List.getD_eq_getElem?_getD, List.getElem?_eq_getElem hm, Option.getD_some]
        have hc0 : w11.cell? ⟨gN, 0 + 3 * j, none⟩ = some (.int .i64 (N.getD (3 * j + 0) 0 : Nat)) := hcell _ hlj
        have hc1 : w11.cell? ⟨gN, 0 + (((3 * j : Nat) : Int) + 1).toNat, none⟩ = some (.int .i64 (N.getD (3 * j + 1) 0 : Nat)) := by
          rw [show (((3 * j : Nat) : Int) + 1).toNat = 3 * j + 1 by omega]; exact hcell _ (by omega)
        have hc2 : w11.cell? ⟨gN, 0 + (((3 * j : Nat) : Int) + 2).toNat, none⟩ = some (.int .i64 (N.getD (3 * j + 2) 0 : Nat)) := by
          rw [show (((3 * j : Nat) : Int) + 2).toNat = 3 * j + 2 by omega]; exact hcell _ (by omega)
        have hcs := chgs_succ N j
        clear hcell
        refine KGO ?_
        refine RunV.of (build_chg _ _ _ _) ?_
        (first | refine Then.go hmix ?_ | refine Sat.go hmix ?_ | refine ResK.go ?_ | skip); conv => whnf
        refine RunV.of (bs1Chg ⟨_, _, _⟩ _) ?_
        obtain ⟨nc', hnc'⟩ : ∃ nc' : Chg, ⟨(N.getD (3 * j + 0) 0 : Nat), (N.getD (3 * j + 1) 0 : Nat), (N.getD (3 * j + 2) 0 : Nat)⟩ = nc' := ⟨_, rfl⟩
        have hcs : chgs N (j + 1) = chgs N j ++ [nc'] := by rw [← hnc']; exact hcs
        rw [hnc']
        have kb : Keeps wq (wq.drew.alloc (.cells (List.toArray (chC nc')) 48)) none_ := (Keeps.refl wq none_).drew.alloc _
        have hbf := at_fresh wq.drew 48 (chC nc')
        have ojb := own_keep0 hoj kb
        generalize wq.drew.alloc (.cells (List.toArray (chC nc')) 48) = Wb at *
        generalize wq.drew.heap.size = gb at *
        have Kb := hKq.trans0 kb
        (first | refine Then.go hmix ?_ | refine Sat.go hmix ?_ | refine ResK.go ?_ | skip); conv => whnf
        have hclen := chgs_len N j
        have ojb' : OwnR 48 chC 3 Wb w11.heap.size (.slice ja j jc) (chgs N j) := by
          unfold OwnR; rw [hclen]; exact ojb
        refine tyChg.app1 nc' ojb' Kb.size hbf (by omega) (by omega) fun v7 w7 o7 k7 => ?_
        rw [← hcs] at o7
        have o7b : w7.ownsRow w11.heap.size 48 3 v7 (j + 1) ((chgs N (j + 1)).flatMap chC) := by
          have := o7; unfold OwnR at this; rw [chgs_len] at this; exact this
        obtain ⟨a7, c7, rfl⟩ := own_shape o7b
        have K7b := own_leC ojb k7 Kb (Nat.le_refl _)
        refine KGO ?_
        exact ⟨(j + 1, a7, c7), ⟨rfl, rfl, rfl, rfl, rfl, rfl, rfl, rfl, v_int (by simp; omega), trivial⟩, ⟨K7b, by dsimp only; omega, o7b⟩, by dsimp only; omega⟩
      · have h3j : 3 * j = N.length := by omega
        have hjd : N.length / 3 = j := by omega
        rw [hjd] at hrd2
        obtain ⟨l, hle⟩ : ∃ l, chgs N j = l := ⟨_, rfl⟩
        have hll : l.length = j := by rw [← hle]; exact chgs_len _ _
        rw [hle] at hrd2 hoj
        obtain rfl : j = l.length := hll.symm
        have KW := K11.trans0 hKq
        have hbW := hb11.keep0 hKq
        have vrW := vr11.keep0 hKq
        have gI := hbW.good
        have gI1 := gI.s1
        have gI0 := gI.s0
        have hrowl : RowC wq (⟨ja, l.length, jc⟩ : Sl).v l := row_of_own hoj rfl
        have hl6 : l.length ≤ 1000000 := by omega
        clear h3 hjd hle h3j hj
        refine KGO ?_
        by_cases hmax : (first : Int) + i = 9223372036854775807
        · refine Num.any (fun x hx1 hx2 _ => ?_) rfl
          (first | refine Then.go hmix ?_ | refine Sat.go hmix ?_ | refine ResK.go ?_ | skip); conv => whnf
          have hn17 : ∀ y, noteA kI y l = (17, kI) := fun y => by unfold noteA; rw [if_pos (.inl (by omega))]
          have hcall := ry_Note (vl := ⟨ja, l.length, jc⟩) hbW KW.size x hx2 hx1 l hrowl hl6
          refine CallS.of (Try.call15 _ _) hcall ?_
          rintro e w12 ⟨rfl, ⟨v12, hs12, hb12⟩, k12⟩
          rw [hn17]
          refine ⟨_, rfl, ?_⟩; (first | refine Then.go hmix ?_ | refine Sat.go hmix ?_ | refine ResK.go ?_ | skip); conv => whnf
          rw [hn17] at hrd2
          rw [if_neg (show ¬ ((17 : Int), kI).1 = 0 from (by decide : ¬ (17 : Int) = 0))] at hrd2
          rw [hrd2] at hread
          rw [show R = none from hread]
          have K12 := noteR_keeps hbW hnbw KW k12
          clear hrd hst gI1
          refine KGO ?_
          exact ⟨rfl, K12⟩
        · refine Num.i64 (by omega) (by omega) ?_
          (first | refine Then.go hmix ?_ | refine Sat.go hmix ?_ | refine ResK.go ?_ | skip); conv => whnf
          have hst1 : (first : Int) + i + 1 = kI.state + 1 := by omega
          rw [hst1]
          have hx1 : kI.state + 1 ≤ 9223372036854775807 := by omega
          have hx0 : -9223372036854775808 ≤ kI.state + 1 := by omega
          have hcall := ry_Note (vl := ⟨ja, l.length, jc⟩) hbW KW.size (kI.state + 1) hx1 hx0 l hrowl hl6
          refine CallS.of (Try.call15 _ _) hcall ?_
          rintro e w12 ⟨rfl, ⟨v12, hs12, hb12⟩, k12⟩
          have vr12 := noteR_var hbW vrW (by decide) (by decide) k12
          have K12 := noteR_keeps hbW hnbw KW k12
          have hst2 : (noteA kI (kI.state + 1) l).1 = 0 → (noteA kI (kI.state + 1) l).2.state = kI.state + 1 := by
            unfold noteA
            split
            · intro h; cases h
            · split
              · intro h; cases h
              · intro _; rfl
          obtain ⟨er, ber, hne⟩ : ∃ er ber, noteA kI (kI.state + 1) l = (er, ber) := ⟨_, _, rfl⟩
          rw [hne] at hrd2 hb12 hst2 ⊢
          dsimp only at hrd2 hb12 hst2 ⊢
          refine ⟨_, rfl, ?_⟩; (first | refine Then.go hmix ?_ | refine Sat.go hmix ?_ | refine ResK.go ?_ | skip); conv => whnf
          by_cases h0 : er = 0
          · rw [if_pos h0] at hrd2
            have hst3 := hst2 h0
            subst h0
            refine KGO ?_
            exact ⟨(i + 1, ber, s4), ⟨rfl, rfl, rfl, rfl, rfl, v_int (by simp), trivial⟩, ⟨K12, vr12, ⟨v12, hs12, hb12⟩, by dsimp only; omega, by dsimp only; omega, hsl4, hrd2⟩, by dsimp only; omega⟩
          · rw [if_neg h0] at hrd2
            rw [hrd2] at hread
            rw [show R = none from hread]
            refine KGO ?_
            exact ⟨rfl, K12⟩
    · refine KGO ?_
      have him : i = many := by omega
      subst him
      rw [Nat.sub_self] at hrd
      have hrd : readG i ⟨first, kept, []⟩ s3 = some (kI, sI) := hrd
      rw [hrd] at hread
      dsimp only at hread
      refine CallS.of (Try.call31 _ _) (rf_Done02 sI vr (hbnd _ hsl)) ?_
      rintro e w7b ⟨rfl, k7b⟩
      refine ⟨_, rfl, ?_⟩; (first | refine Then.go hmix ?_ | refine Sat.go hmix ?_ | refine ResK.go ?_ | skip); conv => whnf
      have hb := hb.keep0 k7b
      have hK := hK.trans0 k7b
      by_cases hdn : sI = some []
      · rw [if_pos hdn] at hread
        rw [decide_eq_true hdn]
        refine KGO ?_
        have hbs := hrb1 _ hread
        refine CallS.of (Try.call12 _ _) (ry_Bytes hb (hrb3 _ hread) (hrb2 _ hread)) ?_
        rintro e w8 ⟨rfl, k8⟩
        rw [hbs, str_L]
        refine ⟨_, rfl, ?_⟩; (first | refine Then.go hmix ?_ | refine Sat.go hmix ?_ | refine ResK.go ?_ | skip); conv => whnf
        refine KGO ?_
        rw [hread]
        exact ⟨⟨nb, _, _, rfl, hnbw, hb.keep0 k8⟩, hK.trans0 k8⟩
      · rw [if_neg hdn] at hread
        rw [decide_eq_false hdn]
        rw [hread]
        refine KGO ?_
        exact ⟨rfl, hK⟩
end
end Go.Proofs.Ytcplagfblmemhaa

-- alias Try
namespace Go.Proofs.Ytcplagfblmemhaa
set_option linter.unusedVariables false
open Go.Shelf Go.RowKit Go.Pw Go.Vc Go.Cs Go.Lib Go.Cd Go.Cx
set_option linter.unusedVariables false
set_option maxRecDepth 100000
def dlC (m c g : Sl) (st : Int) : List Value := [.slice m.a m.n m.c, .slice c.a c.n c.c, .slice g.a g.n g.c, .int .i64 st]
section
variable {w : World}
theorem ry_ints {va vb : Sl} (l : List Int) (ha : RowI w va.v l) (hb : RowI w vb.v l) (hl : l.length ≤ 1000000) : Calls Try.prog 45 #[.slice va.a va.n va.c, .slice vb.a vb.n vb.c] w fun e w' => e = .returned (.bool true) ∧ Keeps w w' none_ := by
  refine calls_of_vc (args := [.slice va.a va.n va.c, .slice vb.a vb.n vb.c]) Try.func45 rfl (Nat.le_of_ble_eq_true rfl) ?_; refine Sat.go hmix ?_; conv => whnf
  refine CallS.of (Try.call59 _ _) (rf_SameInts l l ha hb hl hl) ?_
  rintro e w1 ⟨rfl, k1⟩
  refine ⟨_, rfl, ?_⟩; (first | refine Then.go hmix ?_ | refine Sat.go hmix ?_ | refine ResK.go ?_ | skip); conv => whnf
  exact ⟨by rw [decide_eq_true (rfl : l = l)], k1⟩
theorem ry_Same {m c g m' c' g' : Sl} (d : Dlt) (h1 : RowI w m.v d.made) (h2 : RowI w c.v d.changed) (h3 : RowI w g.v d.gone) (h1' : RowI w m'.v d.made) (h2' : RowI w c'.v d.changed) (h3' : RowI w g'.v d.gone)
    (l1 : d.made.length ≤ 1000000) (l2 : d.changed.length ≤ 1000000) (l3 : d.gone.length ≤ 1000000) :
    Calls Try.prog 18 #[.agg (dlC m c g d.state).toArray, .agg (dlC m' c' g' d.state).toArray] w fun e w' => e = .returned (.bool true) ∧ Keeps w w' none_ := by
  refine calls_of_vc (args := [.agg (dlC m c g d.state).toArray, .agg (dlC m' c' g' d.state).toArray]) Try.func18 rfl (Nat.le_of_ble_eq_true rfl) ?_; refine Sat.go hmix ?_; conv => whnf
  have a_b1 := at_fresh w 40 (dlC m c g d.state)
  have v_b1 := VarK.new w 40 (dlC m c g d.state)
  have k_w1 : Keeps w (w.alloc (.cells (List.toArray (dlC m c g d.state)) 40)) none_ := (Keeps.refl _ _).alloc _
  have z_w1 : (w.alloc (.cells (List.toArray (dlC m c g d.state)) 40)).heap.size = w.heap.size + 1 := by simp
  generalize w.alloc (.cells (List.toArray (dlC m c g d.state)) 40) = w1 at *
  generalize hs_b1 : w.heap.size = b1 at *
  have r_w1 : Keeps w1 w1 none_ := Keeps.refl _ _
  refine KGO ?_
  have a_b2 := at_fresh w1 40 (dlC m' c' g' d.state)
  have v_b2 := VarK.new w1 40 (dlC m' c' g' d.state)
  have k_w2 : Keeps w1 (w1.alloc (.cells (List.toArray (dlC m' c' g' d.state)) 40)) none_ := (Keeps.refl _ _).alloc _
  have z_w2 : (w1.alloc (.cells (List.toArray (dlC m' c' g' d.state)) 40)).heap.size = w1.heap.size + 1 := by simp
  generalize w1.alloc (.cells (List.toArray (dlC m' c' g' d.state)) 40) = w2 at *
  generalize hs_b2 : w1.heap.size = b2 at *
  have r_w2 : Keeps w2 w2 none_ := Keeps.refl _ _
  have K2 := k_w1.trans0 k_w2
  have a1 : At w2 b1 0 (dlC m c g d.state) := at_mono a_b1 k_w2
  clear a_b1
  refine KGO ?_
  refine CallS.of (Try.call45 _ _) (ry_ints d.made (h1.keep K2) (h1'.keep K2) l1) ?_
  rintro e w3 ⟨rfl, k3⟩
  refine ⟨_, rfl, ?_⟩; (first | refine Then.go hmix ?_ | refine Sat.go hmix ?_ | refine ResK.go ?_ | skip); conv => whnf
  have K3 := K2.trans0 k3
  refine KGO ?_
  refine CallS.of (Try.call45 _ _) (ry_ints d.changed (h2.keep K3) (h2'.keep K3) l2) ?_
  rintro e w4 ⟨rfl, k4⟩
  refine ⟨_, rfl, ?_⟩; (first | refine Then.go hmix ?_ | refine Sat.go hmix ?_ | refine ResK.go ?_ | skip); conv => whnf
  have K4 := K3.trans0 k4
  have k24 := k3.trans0 k4
  refine KGO ?_
  refine CallS.of (Try.call45 _ _) (ry_ints d.gone (h3.keep K4) (h3'.keep K4) l3) ?_
  rintro e w5 ⟨rfl, k5⟩
  refine ⟨_, rfl, ?_⟩; (first | refine Then.go hmix ?_ | refine Sat.go hmix ?_ | refine ResK.go ?_ | skip); conv => whnf
  have k25 := k24.trans0 k5
  refine KGO ?_
  exact ⟨by simp, K4.trans0 k5⟩
/-- few: at most 40 records of at most 20 changes. -/
abbrev slcC (p : Sl × List Chg) : List Value := [.slice p.1.a p.1.n p.1.c]
theorem at_slc {w : World} {g o i : Nat} {l : List (Sl × List Chg)} (h : At w g o (l.flatMap slcC)) (hi : i < l.length) : w.cell? ⟨g, o + i, none⟩ = some (.slice l[i].1.a l[i].1.n l[i].1.c) := at_one (fun p : Sl × List Chg => Value.slice p.1.a p.1.n p.1.c) h hi
theorem rowC_n {w : World} {s : Sl} {l : List Chg} (h : RowC w s.v l) : s.n = l.length := by
  obtain ⟨a, c, e, _⟩ := h
  obtain ⟨sa, sn, sc⟩ := s
  injection e
theorem lw_few43 {v : Value} (L : List (Sl × List Chg)) (hv : RowO w v slcC L) (hp : ∀ p ∈ L, RowC w p.1.v p.2) (hl : L.length ≤ 17592186044416) : Calls Try.prog 8 #[v] w fun e w' => (∃ q, e = .returned (.bool q) ∧ (q = true → L.length ≤ 40 ∧ ∀ p ∈ L, p.2.length ≤ 20)) ∧ Keeps w w' none_ := by
  obtain ⟨a, cap, rfl, hr⟩ := hv
  refine calls_of_vc (args := [.slice a L.length cap]) Try.func8 rfl (Nat.le_of_ble_eq_true rfl) ?_; refine Sat.go hmix ?_; conv => whnf
  refine Loop.intro (ι := Nat) (fun i => [(0, .slice a L.length cap), (3, .int .i64 (i : Nat))])
    (fun i wr => Keeps w wr none_ ∧ i ≤ L.length ∧ i ≤ 50 ∧ ∀ p ∈ L.take i, p.2.length ≤ 20) (fun i => 50 - i) 0 ⟨rfl, rfl, trivial⟩ ⟨Keeps.refl _ _, by omega, by omega, fun p h => by simp at h⟩ ?_
  rintro i gf wr ⟨hK, hi, hi5, hall⟩
  (first | refine Then.go hmix ?_ | refine Sat.go hmix ?_ | refine ResK.go ?_ | skip); conv => whnf
  by_cases hlt : i < L.length
  · by_cases h50 : i < 50
    · obtain ⟨gb, o, rfl, hgb, hat⟩ := hr (by omega)
      have hc := at_slc hat hlt
      have hn := rowC_n (hp L[i] (List.getElem_mem hlt))
      rw [hn] at hc
      by_cases h20 : 20 < L[i].2.length
      · refine KGO ?_
        exact ⟨⟨false, rfl, fun e => by cases e⟩, hK⟩
      · refine KGO ?_
        exact ⟨i + 1, ⟨rfl, v_int (by simp), trivial⟩, ⟨hK, by omega, by omega, fun p hm => by
          rw [List.take_succ_eq_append_getElem hlt, List.mem_append, List.mem_singleton] at hm
          rcases hm with hm | rfl
          · exact hall p hm
          · omega⟩, by dsimp only; omega⟩
    · refine KGO ?_
      exact ⟨⟨_, rfl, fun e => by have := of_decide_eq_true e; omega⟩, hK⟩
  · rw [List.take_of_length_le (by omega)] at hall
    refine KGO ?_
    exact ⟨⟨_, rfl, fun e => by have := of_decide_eq_true e; exact ⟨by omega, hall⟩⟩, hK⟩
end
end Go.Proofs.Ytcplagfblmemhaa
