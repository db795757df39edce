/- Helper text of this claim: RefX: lemmas and contracts that the proved statement rests on; no conditions of its own. -/
import Derived.Test.YtcnkbpghafhceaaRefW
import Derived.Test.YtcnkbpghafhceaaMA
namespace Go.Proofs.Ytcnkbpghafhceaa
open Go.RowKit Go.Pw Go.Pw.Dk Go.Vc
set_option linter.unusedVariables false
set_option maxRecDepth 100000
theorem build_file (x : ByteArray) (w : World) : (Instr.build 64 [(0, .string x)].toArray).run Try.prog w = .ok (.agg #[.string x, .string ⟨#[]⟩]) w := by
  simp [Instr.build, Instr.fill, go_sem, Try.runUnderlying64]
theorem cut_rest (a r : ByteArray) (n : Nat) : cutB (a ++ r) (a.size + n) = a ++ r.extract 0 n := extract_cut a r n
theorem RefC.same {w : World} {b bf cap : Nat} {A R : Nat → ByteArray} {D D' : St} (h : RefC w b bf cap A R D) (e : D.same D') : RefC w b bf cap A R D' := by
  obtain ⟨e1, e2, e3, e4, e5⟩ := e
  obtain ⟨u, h5, h6⟩ := h.keep
  exact ⟨h.sh, h.fz, h.shf, h.fzf, h.c0, h.ca, h.cr, by rw [← e2]; exact h.lost, by rw [← e3]; exact h.down, by rw [← e4]; exact h.armed, ⟨u, h5, by rw [← e5]; exact h6⟩,
    fun i hi => by rw [← (e1 i hi).1, ← (e1 i hi).2]; exact h.rel i hi, ⟨fun i hi => by rw [← (e1 i hi).1, ← (e1 i hi).2]; exact h.ok.1 i hi, by rw [← e2, ← e4]; exact h.ok.2⟩⟩
section
variable {w : World} {b bf cap : Nat} {D : St}
/-- The slice of kept lengths, apart from the disk. -/
def Ks (w : World) (b bf : Nat) (v : Value) (kl : List Int) : Prop :=
  (∃ a c, v = .slice a 0 c ∧ kl = []) ∨ ∃ kb ko c, v = .slice (some ⟨kb, ko, none⟩) kl.length c ∧ kb < w.heap.size ∧ kb ≠ b ∧ kb ≠ bf ∧ kl.length ≤ 9223372036854775807 ∧ ∀ i, i < kl.length → w.cell? ⟨kb, ko + i, none⟩ = some (.int .i64 (kl.getD i 0))
theorem Ks.of_ints {A R : Nat → ByteArray} {v : Value} {kl : List Int} (hv : Ints 3 w v kl) (h : RefC w b bf cap A R D) : Ks w b bf v kl := by
  obtain ⟨n, hn⟩ := h.shf
  have hs := h.sh
  rcases hv with ⟨h1, h2⟩ | ⟨kb, ko, c, m, h1, h2, h3, h4⟩
  · exact .inl ⟨none, 0, h1, h2⟩
  · exact .inr ⟨kb, ko, c, h1, shape_lt h2, fun e => (by rw [e, hs] at h2; cases h2), fun e => (by rw [e, hn] at h2; cases h2), h3, h4⟩
theorem Ks.of_ne {W : World} {v : Value} {kl : List Int} (h : IntsNe W.heap.size W v kl) (hk : Keeps W w none_) (hb : W.heap.size ≤ b) (hf : W.heap.size ≤ bf) : Ks w b bf v kl := by
  rcases h with h | ⟨kb, ko, c, h1, h2, h3, h4, h5⟩
  · exact .inl h
  · exact .inr ⟨kb, ko, c, h1, Nat.lt_of_lt_of_le h2 hk.size, by omega, by omega, h4, fun i hi => by rw [hk.cell h2 id]; exact h5 i hi⟩
theorem Ks.keep {w' : World} {v : Value} {kl : List Int} (h : Ks w b bf v kl) (k : Keeps w w' (two_ b bf)) : Ks w' b bf v kl := by
  rcases h with h | ⟨kb, ko, c, h1, h2, h3, h3', h4, h5⟩
  · exact .inl h
  · exact .inr ⟨kb, ko, c, h1, Nat.lt_of_lt_of_le h2 k.size, h3, h3', h4, fun i hi => by rw [k.cell h2 (fun e => by rcases e with e | e; exact h3 e; exact h3' e)]; exact h5 i hi⟩
theorem Ks.at_ {v : Value} {kl : List Int} (h : Ks w b bf v kl) {i : Nat} (hi : i < kl.length) : ∃ kb ko c, v = .slice (some ⟨kb, ko, none⟩) kl.length c ∧ w.cell? ⟨kb, ko + i, none⟩ = some (.int .i64 (kl.getD i 0)) := by
  rcases h with ⟨_, _, _, rfl⟩ | ⟨kb, ko, c, h1, h2, h3, h3', h4, h5⟩
  · simp at hi
  · exact ⟨kb, ko, c, h1, h5 i hi⟩
theorem Ks.form {v : Value} {kl : List Int} (h : Ks w b bf v kl) : (∃ a c, v = .slice a kl.length c) ∧ kl.length ≤ 9223372036854775807 := by
  rcases h with ⟨a, c, h1, rfl⟩ | ⟨kb, ko, c, h1, h2, h3, h3', h4, h5⟩
  · exact ⟨⟨a, c, h1⟩, by simp⟩
  · exact ⟨⟨_, c, h1⟩, h4⟩
set_option maxHeartbeats 4000000 in
theorem r_crash (v : Value) (kl : List Int) (hv : Ks w b bf v kl) (h : RefAt w b bf cap D) :
    Calls Try.prog 42 #[.pointer (some ⟨b, 0, none⟩), v] w fun e w' => e = .returned (.tuple #[]) ∧ RefAt w' b bf cap (crash D kl) ∧ Keeps w w' (two_ b bf) := by
  obtain ⟨⟨va, vc, hvv⟩, hlen⟩ := hv.form
  subst hvv
  obtain ⟨A, R, h⟩ := h
  have hok := h.ok
  have c2 := h.down
  refine calls_of_vc (args := [.pointer (some ⟨b, 0, none⟩), .slice va kl.length vc]) Try.func42 rfl (Nat.le_of_ble_eq_true rfl) ?_; refine Sat.go hmix ?_; conv => whnf
  cases hd : D.down
  · (repeat ((first | refine Num.i64 (by omega) (by omega) ?_ | refine Num.i32 (by omega) (by omega) ?_ | refine Num.u8 (by omega) (by omega) ?_ | refine Br.tt ?_ | refine Br.ff ?_ | refine Br.not_yes ?_ | refine Br.dec_yes (by omega) ?_ | refine Br.dec_no (by omega) ?_ | refine Br.beq_yes (by omega) ?_ | refine Br.beq_no (by omega) ?_ | refine Br.bne_yes (by omega) ?_ | refine Br.bne_no (by omega) ?_ | refine Draw.text (by decide +kernel) ?_ | refine Idx.nat (by omega) ?_ | refine Idx.int (by omega) (by omega) ?_ | refine Cut.to (by omega) ?_ | refine Cut.from (by omega) (by omega) ?_ | refine Cut.both (by omega) (by omega) ?_ | refine Br.dec_yes (by with_reducible assumption) ?_ | refine Br.dec_no (by with_reducible assumption) ?_ | refine Br.yes (by with_reducible assumption) ?_ | refine Br.no (by with_reducible assumption) ?_ | refine Load.one (by rfl) (by with_reducible assumption) ?_ | refine (?_ : Sat _ _ _ _ _ _ _)); (first | refine Then.go hmix ?_ | refine Sat.go hmix ?_ | skip); conv => whnf))
    refine Store.one (by rfl) ⟨rfl, by simp, by simp⟩ h.down (h.fz _) ?_
    (first | refine Then.go hmix ?_ | refine Sat.go hmix ?_ | refine ResK.go ?_ | skip); conv => whnf
    have h1 := h.setDown true
    have k1 := two_set w b bf (0 + 2) (.bool true)
    generalize w.setCell ⟨b, 0 + 2, none⟩ (.bool true) = w1 at *
    (repeat ((first | refine Num.i64 (by omega) (by omega) ?_ | refine Num.i32 (by omega) (by omega) ?_ | refine Num.u8 (by omega) (by omega) ?_ | refine Br.tt ?_ | refine Br.ff ?_ | refine Br.not_yes ?_ | refine Br.dec_yes (by omega) ?_ | refine Br.dec_no (by omega) ?_ | refine Br.beq_yes (by omega) ?_ | refine Br.beq_no (by omega) ?_ | refine Br.bne_yes (by omega) ?_ | refine Br.bne_no (by omega) ?_ | refine Draw.text (by decide +kernel) ?_ | refine Idx.nat (by omega) ?_ | refine Idx.int (by omega) (by omega) ?_ | refine Cut.to (by omega) ?_ | refine Cut.from (by omega) (by omega) ?_ | refine Cut.both (by omega) (by omega) ?_ | refine Br.dec_yes (by with_reducible assumption) ?_ | refine Br.dec_no (by with_reducible assumption) ?_ | refine Br.yes (by with_reducible assumption) ?_ | refine Br.no (by with_reducible assumption) ?_ | refine Load.one (by rfl) (by with_reducible assumption) ?_ | refine (?_ : Sat _ _ _ _ _ _ _)); (first | refine Then.go hmix ?_ | refine Sat.go hmix ?_ | skip); conv => whnf))
    refine Store.one (by rfl) ⟨rfl, by simp, by simp⟩ h1.armed (h1.fz _) ?_
    (first | refine Then.go hmix ?_ | refine Sat.go hmix ?_ | refine ResK.go ?_ | skip); conv => whnf
    have h2 := h1.setArmed 0 (by omega)
    have k2 := k1.trans' (two_set w1 b bf (0 + 3) (.int .i64 0))
    generalize w1.setCell ⟨b, 0 + 3, none⟩ (.int .i64 0) = w2 at *
    have hb2 := h2.lt
    refine Loop.intro (ι := Nat) (fun i => [(0, .pointer (some ⟨b, 0, none⟩)), (1, .slice va kl.length vc), (4, .int .i64 i)])
      (fun i wr => Keeps w wr (two_ b bf) ∧ i ≤ 8 ∧ RefAt wr b bf cap (crashK D kl i)) (fun i => 8 - i) 0 ⟨rfl, rfl, rfl, trivial⟩ ⟨k2, Nat.zero_le _, A, R, by rw [crashK_zero]; exact h2⟩ ?_
    rintro i g wr ⟨hK, hi8, hR⟩
    (first | refine Then.go hmix ?_ | refine Sat.go hmix ?_ | refine ResK.go ?_ | skip); conv => whnf
    by_cases hi : i < 8
    · obtain ⟨A', R', hR⟩ := hR
      have c0 := hR.c0
      have ca := hR.ca i hi
      have cr := hR.cr i hi
      have rl := hR.rel i hi
      have eS : (crashK D kl i).S i = D.S i := by simp [crashK]
      have eL : (crashK D kl i).L i = D.L i := by simp [crashK]
      rw [eS, eL] at rl
      have hz := (hok.1 i hi).2
      rw [rl.1, ByteArray.size_append] at hz
      (repeat ((first | refine Num.i64 (by omega) (by omega) ?_ | refine Num.i32 (by omega) (by omega) ?_ | refine Num.u8 (by omega) (by omega) ?_ | refine Br.tt ?_ | refine Br.ff ?_ | refine Br.not_yes ?_ | refine Br.dec_yes (by omega) ?_ | refine Br.dec_no (by omega) ?_ | refine Br.beq_yes (by omega) ?_ | refine Br.beq_no (by omega) ?_ | refine Br.bne_yes (by omega) ?_ | refine Br.bne_no (by omega) ?_ | refine Draw.text (by decide +kernel) ?_ | refine Idx.nat (by omega) ?_ | refine Idx.int (by omega) (by omega) ?_ | refine Cut.to (by omega) ?_ | refine Cut.from (by omega) (by omega) ?_ | refine Cut.both (by omega) (by omega) ?_ | refine Br.dec_yes (by with_reducible assumption) ?_ | refine Br.dec_no (by with_reducible assumption) ?_ | refine Br.yes (by with_reducible assumption) ?_ | refine Br.no (by with_reducible assumption) ?_ | refine Load.one (by rfl) (by with_reducible assumption) ?_ | refine (?_ : Sat _ _ _ _ _ _ _)); (first | refine Then.go hmix ?_ | refine Sat.go hmix ?_ | skip); conv => whnf))
      refine Load.agg [.string (A' i), .string (R' i)] (by rfl) (by rfl) (by rfl) (fun j v hj => ?_) ?_
      · match j, hj with
        | 0, hj => cases hj; exact ca
        | 1, hj => cases hj; exact cr
      (first | refine Then.go hmix ?_ | refine Sat.go hmix ?_ | refine ResK.go ?_ | skip); conv => whnf
      refine Store.fresh (vs := [.string (A' i), .string (R' i)]) (by rfl) rfl (by simp [Flat]) ?_
      (first | refine Then.go hmix ?_ | refine Sat.go hmix ?_ | refine ResK.go ?_ | skip); conv => whnf
      have hX : At (wr.alloc (.cells #[.string (A' i), .string (R' i)] 64)) wr.heap.size 0 [.string (A' i), .string (R' i)] := at_cells (heap_alloc_new _ _)
      have hR2 := hR.keep0 ((Keeps.refl wr none_).alloc (.cells #[.string (A' i), .string (R' i)] 64))
      have hK2 := hK.alloc (.cells #[.string (A' i), .string (R' i)] 64)
      have hsz := hR.lt
      have hszf := hR.ltf
      have e1 : [Value.string (A' i), Value.string (R' i)].toArray = #[.string (A' i), .string (R' i)] := rfl
      rw [e1]
      generalize wr.alloc (.cells #[.string (A' i), .string (R' i)] 64) = wa at *
      have x0 : wa.cell? ⟨wr.heap.size, 0, none⟩ = some (.string (A' i)) := hX 0 _ rfl
      have x1 : wa.cell? ⟨wr.heap.size, 0 + 1, none⟩ = some (.string (R' i)) := hX 1 _ rfl
      have y0 : wa.drew.cell? ⟨wr.heap.size, 0, none⟩ = some (.string (A' i)) := hX 0 _ rfl
      have y1 : wa.drew.cell? ⟨wr.heap.size, 0 + 1, none⟩ = some (.string (R' i)) := hX 1 _ rfl
      -- the kept number
      have fin : ∀ n : Nat, n = kept D kl i → ∀ wz : World, RefC wz b bf cap A' R' (crashK D kl i) → Keeps w wz (two_ b bf) →
          RefAt ((wz.setCell ⟨bf, 0 + i * 2, none⟩ (.string (A' i ++ (R' i).extract 0 n))).setCell ⟨bf, 0 + i * 2 + 1, none⟩ (.string ⟨#[]⟩)) b bf cap (crashK D kl (i + 1)) ∧
          Keeps w ((wz.setCell ⟨bf, 0 + i * 2, none⟩ (.string (A' i ++ (R' i).extract 0 n))).setCell ⟨bf, 0 + i * 2 + 1, none⟩ (.string ⟨#[]⟩)) (two_ b bf) := fun n hn wz hz2 kz => by
        have hkz := kept_lt D kl i (hok.1 i hi).1
        have hs2 : (A' i ++ (R' i).extract 0 n).size = D.L i + n := by
          rw [ByteArray.size_append, rl.2, ByteArray.size_extract]
          rw [rl.1, ByteArray.size_append, rl.2] at hkz
          omega
        have hs := hz2.setFile i hi (A' i ++ (R' i).extract 0 n) ⟨#[]⟩ (by rw [hs2, hn]; have := (hok.1 i hi).2; show _ + 0 ≤ _; omega)
        refine ⟨⟨Dk.upd A' i (A' i ++ (R' i).extract 0 n), Dk.upd R' i ⟨#[]⟩, ?_⟩, (kz.trans' (two_setF _ b bf _ _)).trans' (two_setF _ b bf _ _)⟩
        have e : ({ crashK D kl i with S := Dk.upd (crashK D kl i).S i (A' i ++ (R' i).extract 0 n ++ ⟨#[]⟩), L := Dk.upd (crashK D kl i).L i (A' i ++ (R' i).extract 0 n).size } : St) = crashK D kl (i + 1) := by
          rw [crashK_succ, append_nil, hs2, ← cut_rest, rl.1, ← rl.2, hn]; rfl
        rw [← e]; exact hs
      have hkp : kept D kl i = if i < kl.length then min (kl.getD i 0).toNat (R' i).size else 0 := by
        unfold kept; rw [rl.1, rl.2, ByteArray.size_append, Nat.add_sub_cancel_left]
      have c0a := hR2.c0
      have c0d := hR2.drew.c0
      by_cases hk : i < kl.length
      · obtain ⟨kb, ko, kc, hve, hkc⟩ := (hv.keep hK2).at_ hk
        cases hve
        rw [if_pos hk] at hkp
        generalize kl.getD i 0 = q at *
        by_cases q0 : q < 0
        · (repeat ((first | refine Num.i64 (by omega) (by omega) ?_ | refine Num.i32 (by omega) (by omega) ?_ | refine Num.u8 (by omega) (by omega) ?_ | refine Br.tt ?_ | refine Br.ff ?_ | refine Br.not_yes ?_ | refine Br.dec_yes (by omega) ?_ | refine Br.dec_no (by omega) ?_ | refine Br.beq_yes (by omega) ?_ | refine Br.beq_no (by omega) ?_ | refine Br.bne_yes (by omega) ?_ | refine Br.bne_no (by omega) ?_ | refine Draw.text (by decide +kernel) ?_ | refine Idx.nat (by omega) ?_ | refine Idx.int (by omega) (by omega) ?_ | refine Cut.to (by omega) ?_ | refine Cut.from (by omega) (by omega) ?_ | refine Cut.both (by omega) (by omega) ?_ | refine Br.dec_yes (by with_reducible assumption) ?_ | refine Br.dec_no (by with_reducible assumption) ?_ | refine Br.yes (by with_reducible assumption) ?_ | refine Br.no (by with_reducible assumption) ?_ | refine Load.one (by rfl) (by with_reducible assumption) ?_ | refine (?_ : Sat _ _ _ _ _ _ _)); (first | refine Then.go hmix ?_ | refine Sat.go hmix ?_ | skip); conv => whnf))
          refine Cut.toI (by omega) (by omega) ?_
          (first | refine Then.go hmix ?_ | refine Sat.go hmix ?_ | refine ResK.go ?_ | skip); conv => whnf
          (repeat ((first | refine Num.i64 (by omega) (by omega) ?_ | refine Num.i32 (by omega) (by omega) ?_ | refine Num.u8 (by omega) (by omega) ?_ | refine Br.tt ?_ | refine Br.ff ?_ | refine Br.not_yes ?_ | refine Br.dec_yes (by omega) ?_ | refine Br.dec_no (by omega) ?_ | refine Br.beq_yes (by omega) ?_ | refine Br.beq_no (by omega) ?_ | refine Br.bne_yes (by omega) ?_ | refine Br.bne_no (by omega) ?_ | refine Draw.text (by decide +kernel) ?_ | refine Idx.nat (by omega) ?_ | refine Idx.int (by omega) (by omega) ?_ | refine Cut.to (by omega) ?_ | refine Cut.from (by omega) (by omega) ?_ | refine Cut.both (by omega) (by omega) ?_ | refine Br.dec_yes (by with_reducible assumption) ?_ | refine Br.dec_no (by with_reducible assumption) ?_ | refine Br.yes (by with_reducible assumption) ?_ | refine Br.no (by with_reducible assumption) ?_ | refine Load.one (by rfl) (by with_reducible assumption) ?_ | refine (?_ : Sat _ _ _ _ _ _ _)); (first | refine Then.go hmix ?_ | refine Sat.go hmix ?_ | skip); conv => whnf))
          refine RunV.cat (by rw [ByteArray.size_extract]; omega) ?_
          (first | refine Then.go hmix ?_ | refine Sat.go hmix ?_ | refine ResK.go ?_ | skip); conv => whnf
          refine RunV.of (build_file _ _) ?_
          (first | refine Then.go hmix ?_ | refine Sat.go hmix ?_ | refine ResK.go ?_ | skip); conv => whnf
          (repeat ((first | refine Num.i64 (by omega) (by omega) ?_ | refine Num.i32 (by omega) (by omega) ?_ | refine Num.u8 (by omega) (by omega) ?_ | refine Br.tt ?_ | refine Br.ff ?_ | refine Br.not_yes ?_ | refine Br.dec_yes (by omega) ?_ | refine Br.dec_no (by omega) ?_ | refine Br.beq_yes (by omega) ?_ | refine Br.beq_no (by omega) ?_ | refine Br.bne_yes (by omega) ?_ | refine Br.bne_no (by omega) ?_ | refine Draw.text (by decide +kernel) ?_ | refine Idx.nat (by omega) ?_ | refine Idx.int (by omega) (by omega) ?_ | refine Cut.to (by omega) ?_ | refine Cut.from (by omega) (by omega) ?_ | refine Cut.both (by omega) (by omega) ?_ | refine Br.dec_yes (by with_reducible assumption) ?_ | refine Br.dec_no (by with_reducible assumption) ?_ | refine Br.yes (by with_reducible assumption) ?_ | refine Br.no (by with_reducible assumption) ?_ | refine Load.one (by rfl) (by with_reducible assumption) ?_ | refine (?_ : Sat _ _ _ _ _ _ _)); (first | refine Then.go hmix ?_ | refine Sat.go hmix ?_ | skip); conv => whnf))
          refine Store.agg [_, _] (by rfl) (by simp [Flat]) (fun j hj => ?_) (fun j => hR2.drew.fzf j) ?_
          · match j, hj with
            | 0, _ => exact ⟨_, hR2.drew.ca i hi⟩
            | 1, _ => exact ⟨_, hR2.drew.cr i hi⟩
          (first | refine Then.go hmix ?_ | refine Sat.go hmix ?_ | refine ResK.go ?_ | skip); conv => whnf
          (repeat ((first | refine Num.i64 (by omega) (by omega) ?_ | refine Num.i32 (by omega) (by omega) ?_ | refine Num.u8 (by omega) (by omega) ?_ | refine Br.tt ?_ | refine Br.ff ?_ | refine Br.not_yes ?_ | refine Br.dec_yes (by omega) ?_ | refine Br.dec_no (by omega) ?_ | refine Br.beq_yes (by omega) ?_ | refine Br.beq_no (by omega) ?_ | refine Br.bne_yes (by omega) ?_ | refine Br.bne_no (by omega) ?_ | refine Draw.text (by decide +kernel) ?_ | refine Idx.nat (by omega) ?_ | refine Idx.int (by omega) (by omega) ?_ | refine Cut.to (by omega) ?_ | refine Cut.from (by omega) (by omega) ?_ | refine Cut.both (by omega) (by omega) ?_ | refine Br.dec_yes (by with_reducible assumption) ?_ | refine Br.dec_no (by with_reducible assumption) ?_ | refine Br.yes (by with_reducible assumption) ?_ | refine Br.no (by with_reducible assumption) ?_ | refine Load.one (by rfl) (by with_reducible assumption) ?_ | refine (?_ : Sat _ _ _ _ _ _ _)); (first | refine Then.go hmix ?_ | refine Sat.go hmix ?_ | skip); conv => whnf))
          obtain ⟨f1, f2⟩ := fin (Int.toNat 0) (by rw [hkp]; omega) wa.drew hR2.drew hK2.drew
          exact ⟨i + 1, ⟨rfl, rfl, rfl, trivial⟩, ⟨f2, by omega, f1⟩, by show 8 - (i + 1) < 8 - i; omega⟩
        · by_cases q1 : ((R' i).size : Int) < q
          · (repeat ((first | refine Num.i64 (by omega) (by omega) ?_ | refine Num.i32 (by omega) (by omega) ?_ | refine Num.u8 (by omega) (by omega) ?_ | refine Br.tt ?_ | refine Br.ff ?_ | refine Br.not_yes ?_ | refine Br.dec_yes (by omega) ?_ | refine Br.dec_no (by omega) ?_ | refine Br.beq_yes (by omega) ?_ | refine Br.beq_no (by omega) ?_ | refine Br.bne_yes (by omega) ?_ | refine Br.bne_no (by omega) ?_ | refine Draw.text (by decide +kernel) ?_ | refine Idx.nat (by omega) ?_ | refine Idx.int (by omega) (by omega) ?_ | refine Cut.to (by omega) ?_ | refine Cut.from (by omega) (by omega) ?_ | refine Cut.both (by omega) (by omega) ?_ | refine Br.dec_yes (by with_reducible assumption) ?_ | refine Br.dec_no (by with_reducible assumption) ?_ | refine Br.yes (by with_reducible assumption) ?_ | refine Br.no (by with_reducible assumption) ?_ | refine Load.one (by rfl) (by with_reducible assumption) ?_ | refine (?_ : Sat _ _ _ _ _ _ _)); (first | refine Then.go hmix ?_ | refine Sat.go hmix ?_ | skip); conv => whnf))
            skip
            (first | refine Then.go hmix ?_ | refine Sat.go hmix ?_ | refine ResK.go ?_ | skip); conv => whnf
            (repeat ((first | refine Num.i64 (by omega) (by omega) ?_ | refine Num.i32 (by omega) (by omega) ?_ | refine Num.u8 (by omega) (by omega) ?_ | refine Br.tt ?_ | refine Br.ff ?_ | refine Br.not_yes ?_ | refine Br.dec_yes (by omega) ?_ | refine Br.dec_no (by omega) ?_ | refine Br.beq_yes (by omega) ?_ | refine Br.beq_no (by omega) ?_ | refine Br.bne_yes (by omega) ?_ | refine Br.bne_no (by omega) ?_ | refine Draw.text (by decide +kernel) ?_ | refine Idx.nat (by omega) ?_ | refine Idx.int (by omega) (by omega) ?_ | refine Cut.to (by omega) ?_ | refine Cut.from (by omega) (by omega) ?_ | refine Cut.both (by omega) (by omega) ?_ | refine Br.dec_yes (by with_reducible assumption) ?_ | refine Br.dec_no (by with_reducible assumption) ?_ | refine Br.yes (by with_reducible assumption) ?_ | refine Br.no (by with_reducible assumption) ?_ | refine Load.one (by rfl) (by with_reducible assumption) ?_ | refine (?_ : Sat _ _ _ _ _ _ _)); (first | refine Then.go hmix ?_ | refine Sat.go hmix ?_ | skip); conv => whnf))
            refine RunV.cat (by rw [ByteArray.size_extract]; omega) ?_
            (first | refine Then.go hmix ?_ | refine Sat.go hmix ?_ | refine ResK.go ?_ | skip); conv => whnf
            refine RunV.of (build_file _ _) ?_
            (first | refine Then.go hmix ?_ | refine Sat.go hmix ?_ | refine ResK.go ?_ | skip); conv => whnf
            (repeat ((first | refine Num.i64 (by omega) (by omega) ?_ | refine Num.i32 (by omega) (by omega) ?_ | refine Num.u8 (by omega) (by omega) ?_ | refine Br.tt ?_ | refine Br.ff ?_ | refine Br.not_yes ?_ | refine Br.dec_yes (by omega) ?_ | refine Br.dec_no (by omega) ?_ | refine Br.beq_yes (by omega) ?_ | refine Br.beq_no (by omega) ?_ | refine Br.bne_yes (by omega) ?_ | refine Br.bne_no (by omega) ?_ | refine Draw.text (by decide +kernel) ?_ | refine Idx.nat (by omega) ?_ | refine Idx.int (by omega) (by omega) ?_ | refine Cut.to (by omega) ?_ | refine Cut.from (by omega) (by omega) ?_ | refine Cut.both (by omega) (by omega) ?_ | refine Br.dec_yes (by with_reducible assumption) ?_ | refine Br.dec_no (by with_reducible assumption) ?_ | refine Br.yes (by with_reducible assumption) ?_ | refine Br.no (by with_reducible assumption) ?_ | refine Load.one (by rfl) (by with_reducible assumption) ?_ | refine (?_ : Sat _ _ _ _ _ _ _)); (first | refine Then.go hmix ?_ | refine Sat.go hmix ?_ | skip); conv => whnf))
            refine Store.agg [_, _] (by rfl) (by simp [Flat]) (fun j hj => ?_) (fun j => hR2.drew.fzf j) ?_
            · match j, hj with
              | 0, _ => exact ⟨_, hR2.drew.ca i hi⟩
              | 1, _ => exact ⟨_, hR2.drew.cr i hi⟩
            (first | refine Then.go hmix ?_ | refine Sat.go hmix ?_ | refine ResK.go ?_ | skip); conv => whnf
            (repeat ((first | refine Num.i64 (by omega) (by omega) ?_ | refine Num.i32 (by omega) (by omega) ?_ | refine Num.u8 (by omega) (by omega) ?_ | refine Br.tt ?_ | refine Br.ff ?_ | refine Br.not_yes ?_ | refine Br.dec_yes (by omega) ?_ | refine Br.dec_no (by omega) ?_ | refine Br.beq_yes (by omega) ?_ | refine Br.beq_no (by omega) ?_ | refine Br.bne_yes (by omega) ?_ | refine Br.bne_no (by omega) ?_ | refine Draw.text (by decide +kernel) ?_ | refine Idx.nat (by omega) ?_ | refine Idx.int (by omega) (by omega) ?_ | refine Cut.to (by omega) ?_ | refine Cut.from (by omega) (by omega) ?_ | refine Cut.both (by omega) (by omega) ?_ | refine Br.dec_yes (by with_reducible assumption) ?_ | refine Br.dec_no (by with_reducible assumption) ?_ | refine Br.yes (by with_reducible assumption) ?_ | refine Br.no (by with_reducible assumption) ?_ | refine Load.one (by rfl) (by with_reducible assumption) ?_ | refine (?_ : Sat _ _ _ _ _ _ _)); (first | refine Then.go hmix ?_ | refine Sat.go hmix ?_ | skip); conv => whnf))
            obtain ⟨f1, f2⟩ := fin (R' i).size (by rw [hkp]; omega) wa.drew hR2.drew hK2.drew
            exact ⟨i + 1, ⟨rfl, rfl, rfl, trivial⟩, ⟨f2, by omega, f1⟩, by show 8 - (i + 1) < 8 - i; omega⟩
          · (repeat ((first | refine Num.i64 (by omega) (by omega) ?_ | refine Num.i32 (by omega) (by omega) ?_ | refine Num.u8 (by omega) (by omega) ?_ | refine Br.tt ?_ | refine Br.ff ?_ | refine Br.not_yes ?_ | refine Br.dec_yes (by omega) ?_ | refine Br.dec_no (by omega) ?_ | refine Br.beq_yes (by omega) ?_ | refine Br.beq_no (by omega) ?_ | refine Br.bne_yes (by omega) ?_ | refine Br.bne_no (by omega) ?_ | refine Draw.text (by decide +kernel) ?_ | refine Idx.nat (by omega) ?_ | refine Idx.int (by omega) (by omega) ?_ | refine Cut.to (by omega) ?_ | refine Cut.from (by omega) (by omega) ?_ | refine Cut.both (by omega) (by omega) ?_ | refine Br.dec_yes (by with_reducible assumption) ?_ | refine Br.dec_no (by with_reducible assumption) ?_ | refine Br.yes (by with_reducible assumption) ?_ | refine Br.no (by with_reducible assumption) ?_ | refine Load.one (by rfl) (by with_reducible assumption) ?_ | refine (?_ : Sat _ _ _ _ _ _ _)); (first | refine Then.go hmix ?_ | refine Sat.go hmix ?_ | skip); conv => whnf))
            refine Cut.toI (by omega) (by omega) ?_
            (first | refine Then.go hmix ?_ | refine Sat.go hmix ?_ | refine ResK.go ?_ | skip); conv => whnf
            (repeat ((first | refine Num.i64 (by omega) (by omega) ?_ | refine Num.i32 (by omega) (by omega) ?_ | refine Num.u8 (by omega) (by omega) ?_ | refine Br.tt ?_ | refine Br.ff ?_ | refine Br.not_yes ?_ | refine Br.dec_yes (by omega) ?_ | refine Br.dec_no (by omega) ?_ | refine Br.beq_yes (by omega) ?_ | refine Br.beq_no (by omega) ?_ | refine Br.bne_yes (by omega) ?_ | refine Br.bne_no (by omega) ?_ | refine Draw.text (by decide +kernel) ?_ | refine Idx.nat (by omega) ?_ | refine Idx.int (by omega) (by omega) ?_ | refine Cut.to (by omega) ?_ | refine Cut.from (by omega) (by omega) ?_ | refine Cut.both (by omega) (by omega) ?_ | refine Br.dec_yes (by with_reducible assumption) ?_ | refine Br.dec_no (by with_reducible assumption) ?_ | refine Br.yes (by with_reducible assumption) ?_ | refine Br.no (by with_reducible assumption) ?_ | refine Load.one (by rfl) (by with_reducible assumption) ?_ | refine (?_ : Sat _ _ _ _ _ _ _)); (first | refine Then.go hmix ?_ | refine Sat.go hmix ?_ | skip); conv => whnf))
            refine RunV.cat (by rw [ByteArray.size_extract]; omega) ?_
            (first | refine Then.go hmix ?_ | refine Sat.go hmix ?_ | refine ResK.go ?_ | skip); conv => whnf
            refine RunV.of (build_file _ _) ?_
            (first | refine Then.go hmix ?_ | refine Sat.go hmix ?_ | refine ResK.go ?_ | skip); conv => whnf
            (repeat ((first | refine Num.i64 (by omega) (by omega) ?_ | refine Num.i32 (by omega) (by omega) ?_ | refine Num.u8 (by omega) (by omega) ?_ | refine Br.tt ?_ | refine Br.ff ?_ | refine Br.not_yes ?_ | refine Br.dec_yes (by omega) ?_ | refine Br.dec_no (by omega) ?_ | refine Br.beq_yes (by omega) ?_ | refine Br.beq_no (by omega) ?_ | refine Br.bne_yes (by omega) ?_ | refine Br.bne_no (by omega) ?_ | refine Draw.text (by decide +kernel) ?_ | refine Idx.nat (by omega) ?_ | refine Idx.int (by omega) (by omega) ?_ | refine Cut.to (by omega) ?_ | refine Cut.from (by omega) (by omega) ?_ | refine Cut.both (by omega) (by omega) ?_ | refine Br.dec_yes (by with_reducible assumption) ?_ | refine Br.dec_no (by with_reducible assumption) ?_ | refine Br.yes (by with_reducible assumption) ?_ | refine Br.no (by with_reducible assumption) ?_ | refine Load.one (by rfl) (by with_reducible assumption) ?_ | refine (?_ : Sat _ _ _ _ _ _ _)); (first | refine Then.go hmix ?_ | refine Sat.go hmix ?_ | skip); conv => whnf))
            refine Store.agg [_, _] (by rfl) (by simp [Flat]) (fun j hj => ?_) (fun j => hR2.drew.fzf j) ?_
            · match j, hj with
              | 0, _ => exact ⟨_, hR2.drew.ca i hi⟩
              | 1, _ => exact ⟨_, hR2.drew.cr i hi⟩
            (first | refine Then.go hmix ?_ | refine Sat.go hmix ?_ | refine ResK.go ?_ | skip); conv => whnf
            (repeat ((first | refine Num.i64 (by omega) (by omega) ?_ | refine Num.i32 (by omega) (by omega) ?_ | refine Num.u8 (by omega) (by omega) ?_ | refine Br.tt ?_ | refine Br.ff ?_ | refine Br.not_yes ?_ | refine Br.dec_yes (by omega) ?_ | refine Br.dec_no (by omega) ?_ | refine Br.beq_yes (by omega) ?_ | refine Br.beq_no (by omega) ?_ | refine Br.bne_yes (by omega) ?_ | refine Br.bne_no (by omega) ?_ | refine Draw.text (by decide +kernel) ?_ | refine Idx.nat (by omega) ?_ | refine Idx.int (by omega) (by omega) ?_ | refine Cut.to (by omega) ?_ | refine Cut.from (by omega) (by omega) ?_ | refine Cut.both (by omega) (by omega) ?_ | refine Br.dec_yes (by with_reducible assumption) ?_ | refine Br.dec_no (by with_reducible assumption) ?_ | refine Br.yes (by with_reducible assumption) ?_ | refine Br.no (by with_reducible assumption) ?_ | refine Load.one (by rfl) (by with_reducible assumption) ?_ | refine (?_ : Sat _ _ _ _ _ _ _)); (first | refine Then.go hmix ?_ | refine Sat.go hmix ?_ | skip); conv => whnf))
            obtain ⟨f1, f2⟩ := fin q.toNat (by rw [hkp]; omega) wa.drew hR2.drew hK2.drew
            exact ⟨i + 1, ⟨rfl, rfl, rfl, trivial⟩, ⟨f2, by omega, f1⟩, by show 8 - (i + 1) < 8 - i; omega⟩
      · rw [if_neg hk] at hkp
        (repeat ((first | refine Num.i64 (by omega) (by omega) ?_ | refine Num.i32 (by omega) (by omega) ?_ | refine Num.u8 (by omega) (by omega) ?_ | refine Br.tt ?_ | refine Br.ff ?_ | refine Br.not_yes ?_ | refine Br.dec_yes (by omega) ?_ | refine Br.dec_no (by omega) ?_ | refine Br.beq_yes (by omega) ?_ | refine Br.beq_no (by omega) ?_ | refine Br.bne_yes (by omega) ?_ | refine Br.bne_no (by omega) ?_ | refine Draw.text (by decide +kernel) ?_ | refine Idx.nat (by omega) ?_ | refine Idx.int (by omega) (by omega) ?_ | refine Cut.to (by omega) ?_ | refine Cut.from (by omega) (by omega) ?_ | refine Cut.both (by omega) (by omega) ?_ | refine Br.dec_yes (by with_reducible assumption) ?_ | refine Br.dec_no (by with_reducible assumption) ?_ | refine Br.yes (by with_reducible assumption) ?_ | refine Br.no (by with_reducible assumption) ?_ | refine Load.one (by rfl) (by with_reducible assumption) ?_ | refine (?_ : Sat _ _ _ _ _ _ _)); (first | refine Then.go hmix ?_ | refine Sat.go hmix ?_ | skip); conv => whnf))
        refine Cut.toI (by omega) (by omega) ?_
        (first | refine Then.go hmix ?_ | refine Sat.go hmix ?_ | refine ResK.go ?_ | skip); conv => whnf
        (repeat ((first | refine Num.i64 (by omega) (by omega) ?_ | refine Num.i32 (by omega) (by omega) ?_ | refine Num.u8 (by omega) (by omega) ?_ | refine Br.tt ?_ | refine Br.ff ?_ | refine Br.not_yes ?_ | refine Br.dec_yes (by omega) ?_ | refine Br.dec_no (by omega) ?_ | refine Br.beq_yes (by omega) ?_ | refine Br.beq_no (by omega) ?_ | refine Br.bne_yes (by omega) ?_ | refine Br.bne_no (by omega) ?_ | refine Draw.text (by decide +kernel) ?_ | refine Idx.nat (by omega) ?_ | refine Idx.int (by omega) (by omega) ?_ | refine Cut.to (by omega) ?_ | refine Cut.from (by omega) (by omega) ?_ | refine Cut.both (by omega) (by omega) ?_ | refine Br.dec_yes (by with_reducible assumption) ?_ | refine Br.dec_no (by with_reducible assumption) ?_ | refine Br.yes (by with_reducible assumption) ?_ | refine Br.no (by with_reducible assumption) ?_ | refine Load.one (by rfl) (by with_reducible assumption) ?_ | refine (?_ : Sat _ _ _ _ _ _ _)); (first | refine Then.go hmix ?_ | refine Sat.go hmix ?_ | skip); conv => whnf))
        refine RunV.cat (by rw [ByteArray.size_extract]; omega) ?_
        (first | refine Then.go hmix ?_ | refine Sat.go hmix ?_ | refine ResK.go ?_ | skip); conv => whnf
        refine RunV.of (build_file _ _) ?_
        (first | refine Then.go hmix ?_ | refine Sat.go hmix ?_ | refine ResK.go ?_ | skip); conv => whnf
        (repeat ((first | refine Num.i64 (by omega) (by omega) ?_ | refine Num.i32 (by omega) (by omega) ?_ | refine Num.u8 (by omega) (by omega) ?_ | refine Br.tt ?_ | refine Br.ff ?_ | refine Br.not_yes ?_ | refine Br.dec_yes (by omega) ?_ | refine Br.dec_no (by omega) ?_ | refine Br.beq_yes (by omega) ?_ | refine Br.beq_no (by omega) ?_ | refine Br.bne_yes (by omega) ?_ | refine Br.bne_no (by omega) ?_ | refine Draw.text (by decide +kernel) ?_ | refine Idx.nat (by omega) ?_ | refine Idx.int (by omega) (by omega) ?_ | refine Cut.to (by omega) ?_ | refine Cut.from (by omega) (by omega) ?_ | refine Cut.both (by omega) (by omega) ?_ | refine Br.dec_yes (by with_reducible assumption) ?_ | refine Br.dec_no (by with_reducible assumption) ?_ | refine Br.yes (by with_reducible assumption) ?_ | refine Br.no (by with_reducible assumption) ?_ | refine Load.one (by rfl) (by with_reducible assumption) ?_ | refine (?_ : Sat _ _ _ _ _ _ _)); (first | refine Then.go hmix ?_ | refine Sat.go hmix ?_ | skip); conv => whnf))
        refine Store.agg [_, _] (by rfl) (by simp [Flat]) (fun j hj => ?_) (fun j => hR2.drew.fzf j) ?_
        · match j, hj with
          | 0, _ => exact ⟨_, hR2.drew.ca i hi⟩
          | 1, _ => exact ⟨_, hR2.drew.cr i hi⟩
        (first | refine Then.go hmix ?_ | refine Sat.go hmix ?_ | refine ResK.go ?_ | skip); conv => whnf
        (repeat ((first | refine Num.i64 (by omega) (by omega) ?_ | refine Num.i32 (by omega) (by omega) ?_ | refine Num.u8 (by omega) (by omega) ?_ | refine Br.tt ?_ | refine Br.ff ?_ | refine Br.not_yes ?_ | refine Br.dec_yes (by omega) ?_ | refine Br.dec_no (by omega) ?_ | refine Br.beq_yes (by omega) ?_ | refine Br.beq_no (by omega) ?_ | refine Br.bne_yes (by omega) ?_ | refine Br.bne_no (by omega) ?_ | refine Draw.text (by decide +kernel) ?_ | refine Idx.nat (by omega) ?_ | refine Idx.int (by omega) (by omega) ?_ | refine Cut.to (by omega) ?_ | refine Cut.from (by omega) (by omega) ?_ | refine Cut.both (by omega) (by omega) ?_ | refine Br.dec_yes (by with_reducible assumption) ?_ | refine Br.dec_no (by with_reducible assumption) ?_ | refine Br.yes (by with_reducible assumption) ?_ | refine Br.no (by with_reducible assumption) ?_ | refine Load.one (by rfl) (by with_reducible assumption) ?_ | refine (?_ : Sat _ _ _ _ _ _ _)); (first | refine Then.go hmix ?_ | refine Sat.go hmix ?_ | skip); conv => whnf))
        obtain ⟨f1, f2⟩ := fin (Int.toNat 0) (by rw [hkp]; omega) wa.drew hR2.drew hK2.drew
        exact ⟨i + 1, ⟨rfl, rfl, rfl, trivial⟩, ⟨f2, by omega, f1⟩, by show 8 - (i + 1) < 8 - i; omega⟩
    · obtain rfl : i = 8 := by omega
      (repeat ((first | refine Num.i64 (by omega) (by omega) ?_ | refine Num.i32 (by omega) (by omega) ?_ | refine Num.u8 (by omega) (by omega) ?_ | refine Br.tt ?_ | refine Br.ff ?_ | refine Br.not_yes ?_ | refine Br.dec_yes (by omega) ?_ | refine Br.dec_no (by omega) ?_ | refine Br.beq_yes (by omega) ?_ | refine Br.beq_no (by omega) ?_ | refine Br.bne_yes (by omega) ?_ | refine Br.bne_no (by omega) ?_ | refine Draw.text (by decide +kernel) ?_ | refine Idx.nat (by omega) ?_ | refine Idx.int (by omega) (by omega) ?_ | refine Cut.to (by omega) ?_ | refine Cut.from (by omega) (by omega) ?_ | refine Cut.both (by omega) (by omega) ?_ | refine Br.dec_yes (by with_reducible assumption) ?_ | refine Br.dec_no (by with_reducible assumption) ?_ | refine Br.yes (by with_reducible assumption) ?_ | refine Br.no (by with_reducible assumption) ?_ | refine Load.one (by rfl) (by with_reducible assumption) ?_ | refine (?_ : Sat _ _ _ _ _ _ _)); (first | refine Then.go hmix ?_ | refine Sat.go hmix ?_ | skip); conv => whnf))
      obtain ⟨A', R', hR⟩ := hR
      refine ⟨rfl, ⟨A', R', ?_⟩, hK⟩
      have hs := crashK_8 D kl hd
      exact hR.same hs
  · (repeat ((first | refine Num.i64 (by omega) (by omega) ?_ | refine Num.i32 (by omega) (by omega) ?_ | refine Num.u8 (by omega) (by omega) ?_ | refine Br.tt ?_ | refine Br.ff ?_ | refine Br.not_yes ?_ | refine Br.dec_yes (by omega) ?_ | refine Br.dec_no (by omega) ?_ | refine Br.beq_yes (by omega) ?_ | refine Br.beq_no (by omega) ?_ | refine Br.bne_yes (by omega) ?_ | refine Br.bne_no (by omega) ?_ | refine Draw.text (by decide +kernel) ?_ | refine Idx.nat (by omega) ?_ | refine Idx.int (by omega) (by omega) ?_ | refine Cut.to (by omega) ?_ | refine Cut.from (by omega) (by omega) ?_ | refine Cut.both (by omega) (by omega) ?_ | refine Br.dec_yes (by with_reducible assumption) ?_ | refine Br.dec_no (by with_reducible assumption) ?_ | refine Br.yes (by with_reducible assumption) ?_ | refine Br.no (by with_reducible assumption) ?_ | refine Load.one (by rfl) (by with_reducible assumption) ?_ | refine (?_ : Sat _ _ _ _ _ _ _)); (first | refine Then.go hmix ?_ | refine Sat.go hmix ?_ | skip); conv => whnf))
    exact ⟨rfl, ⟨A, R, by unfold crash; rw [hd]; exact h⟩, Keeps.refl _ _⟩
end
end Go.Proofs.Ytcnkbpghafhceaa
