/- Helper text of this claim: RefY: lemmas and contracts that the proved statement rests on; no conditions of its own. -/
import Derived.Test.YtcnkbpghafhceaaRefX
namespace Go.Proofs.Ytcnkbpghafhceaa
open Go.RowKit Go.Pw Go.Pw.Dk Go.Vc
set_option linter.unusedVariables false
set_option maxRecDepth 100000
section
variable {w : World} {b bf cap : Nat} {D : St}
theorem RefAt.ks (h : RefAt w b bf cap D) : ∃ v, w.cell? ⟨b, 0 + 4, none⟩ = some v ∧ Ks w b bf v D.kl := by
  obtain ⟨A, R, h⟩ := h
  obtain ⟨v, h1, h2⟩ := h.keep
  exact ⟨v, h1, Ks.of_ints h2 h⟩
theorem size_le (hok : D.ok) (f : Int) : 0 ≤ sizeI D f ∧ sizeI D f ≤ 16777216 := by
  unfold sizeI; split
  · rename_i hf; simp [isB] at hf; have := (hok.1 f.toNat (by omega)).2; omega
  · omega
theorem appE_eq (hd : D.down = false) (f : Int) (s : ByteArray) : (appE D f s = 0 ↔ (0 ≤ f ∧ f ≤ 7) ∧ sizeI D f + s.size ≤ 16777216) := by
  unfold appE may isB
  simp only [hd]
  by_cases hf : 0 ≤ f ∧ f < 8
  · simp [hf]; omega
  · simp [hf]; omega
set_option maxHeartbeats 4000000 in
theorem r_comes (f : Int) (s : ByteArray) (hs : s.size ≤ 9223372036837998591) (h : RefAt w b bf cap D) :
    Calls Try.prog 46 #[.pointer (some ⟨b, 0, none⟩), .int .i64 f, .string s] w fun e w' => e = .returned (.tuple #[]) ∧ RefAt w' b bf cap (comesD D f s) ∧ Keeps w w' (two_ b bf) := by
  have hok := h.ok
  have h' := h
  obtain ⟨A, R, h⟩ := h
  have c2 := h.down
  have c3 := h.armed
  have ha0 : 0 ≤ D.armed ∧ D.armed ≤ 9223372036854775807 := hok.2.2.2
  refine calls_of_vc (args := [.pointer (some ⟨b, 0, none⟩), .int .i64 f, .string s]) Try.func46 rfl (Nat.le_of_ble_eq_true rfl) ?_; refine Sat.go hmix ?_; conv => whnf
  cases hd : D.down
  · by_cases h0 : D.armed = 0
    · have e1 : comesD D f s = D := by unfold comesD; rw [ends_un hd h0, tick_un hd h0]; simp
      (repeat ((first | refine Num.i64 (by omega) (by omega) ?_ | refine Num.i32 (by omega) (by omega) ?_ | refine Num.u8 (by omega) (by omega) ?_ | refine Br.tt ?_ | refine Br.ff ?_ | refine Br.not_yes ?_ | refine Br.dec_yes (by omega) ?_ | refine Br.dec_no (by omega) ?_ | refine Br.beq_yes (by omega) ?_ | refine Br.beq_no (by omega) ?_ | refine Br.bne_yes (by omega) ?_ | refine Br.bne_no (by omega) ?_ | refine Draw.text (by decide +kernel) ?_ | refine Idx.nat (by omega) ?_ | refine Idx.int (by omega) (by omega) ?_ | refine Cut.to (by omega) ?_ | refine Cut.from (by omega) (by omega) ?_ | refine Cut.both (by omega) (by omega) ?_ | refine Br.dec_yes (by with_reducible assumption) ?_ | refine Br.dec_no (by with_reducible assumption) ?_ | refine Br.yes (by with_reducible assumption) ?_ | refine Br.no (by with_reducible assumption) ?_ | refine Load.one (by rfl) (by with_reducible assumption) ?_ | refine (?_ : Sat _ _ _ _ _ _ _)); (first | refine Then.go hmix ?_ | refine Sat.go hmix ?_ | skip); conv => whnf))
      exact ⟨rfl, by rw [e1]; exact h', Keeps.refl _ _⟩
    · (repeat ((first | refine Num.i64 (by omega) (by omega) ?_ | refine Num.i32 (by omega) (by omega) ?_ | refine Num.u8 (by omega) (by omega) ?_ | refine Br.tt ?_ | refine Br.ff ?_ | refine Br.not_yes ?_ | refine Br.dec_yes (by omega) ?_ | refine Br.dec_no (by omega) ?_ | refine Br.beq_yes (by omega) ?_ | refine Br.beq_no (by omega) ?_ | refine Br.bne_yes (by omega) ?_ | refine Br.bne_no (by omega) ?_ | refine Draw.text (by decide +kernel) ?_ | refine Idx.nat (by omega) ?_ | refine Idx.int (by omega) (by omega) ?_ | refine Cut.to (by omega) ?_ | refine Cut.from (by omega) (by omega) ?_ | refine Cut.both (by omega) (by omega) ?_ | refine Br.dec_yes (by with_reducible assumption) ?_ | refine Br.dec_no (by with_reducible assumption) ?_ | refine Br.yes (by with_reducible assumption) ?_ | refine Br.no (by with_reducible assumption) ?_ | refine Load.one (by rfl) (by with_reducible assumption) ?_ | refine (?_ : Sat _ _ _ _ _ _ _)); (first | refine Then.go hmix ?_ | refine Sat.go hmix ?_ | skip); conv => whnf))
      refine Store.one (by rfl) ⟨rfl, by simp, by simp⟩ h.armed (h.fz _) ?_
      (first | refine Then.go hmix ?_ | refine Sat.go hmix ?_ | refine ResK.go ?_ | skip); conv => whnf
      have h1 := h.setArmed (D.armed - 1) (by omega)
      have k1 := two_set w b bf (0 + 3) (.int .i64 (D.armed - 1))
      have et : ({ D with armed := D.armed - 1 } : St) = tick D := by unfold tick; simp [hd, h0]
      rw [et] at h1
      have c3' := h1.armed
      have ea : (tick D).armed = D.armed - 1 := by rw [← et]
      have ed : (tick D).down = false := by rw [tick_down, hd]
      rw [ea] at c3'
      generalize w.setCell ⟨b, 0 + 3, none⟩ (.int .i64 (D.armed - 1)) = w1 at *
      by_cases h2 : D.armed = 1
      · have he : endsB D = true := by simp [endsB, hd, h2]
        have hE := appE_eq ed f s
        have hsz := size_le h1.ok f
        unfold comesD
        rw [if_pos he]
        (repeat ((first | refine Num.i64 (by omega) (by omega) ?_ | refine Num.i32 (by omega) (by omega) ?_ | refine Num.u8 (by omega) (by omega) ?_ | refine Br.tt ?_ | refine Br.ff ?_ | refine Br.not_yes ?_ | refine Br.dec_yes (by omega) ?_ | refine Br.dec_no (by omega) ?_ | refine Br.beq_yes (by omega) ?_ | refine Br.beq_no (by omega) ?_ | refine Br.bne_yes (by omega) ?_ | refine Br.bne_no (by omega) ?_ | refine Draw.text (by decide +kernel) ?_ | refine Idx.nat (by omega) ?_ | refine Idx.int (by omega) (by omega) ?_ | refine Cut.to (by omega) ?_ | refine Cut.from (by omega) (by omega) ?_ | refine Cut.both (by omega) (by omega) ?_ | refine Br.dec_yes (by with_reducible assumption) ?_ | refine Br.dec_no (by with_reducible assumption) ?_ | refine Br.yes (by with_reducible assumption) ?_ | refine Br.no (by with_reducible assumption) ?_ | refine Load.one (by rfl) (by with_reducible assumption) ?_ | refine (?_ : Sat _ _ _ _ _ _ _)); (first | refine Then.go hmix ?_ | refine Sat.go hmix ?_ | skip); conv => whnf))
        -- the appended bytes
        have big := fun (x : Ks w b bf (.slice none 0 0) []) => x
        by_cases hf : 0 ≤ f ∧ f ≤ 7
        · (repeat ((first | refine Num.i64 (by omega) (by omega) ?_ | refine Num.i32 (by omega) (by omega) ?_ | refine Num.u8 (by omega) (by omega) ?_ | refine Br.tt ?_ | refine Br.ff ?_ | refine Br.not_yes ?_ | refine Br.dec_yes (by omega) ?_ | refine Br.dec_no (by omega) ?_ | refine Br.beq_yes (by omega) ?_ | refine Br.beq_no (by omega) ?_ | refine Br.bne_yes (by omega) ?_ | refine Br.bne_no (by omega) ?_ | refine Draw.text (by decide +kernel) ?_ | refine Idx.nat (by omega) ?_ | refine Idx.int (by omega) (by omega) ?_ | refine Cut.to (by omega) ?_ | refine Cut.from (by omega) (by omega) ?_ | refine Cut.both (by omega) (by omega) ?_ | refine Br.dec_yes (by with_reducible assumption) ?_ | refine Br.dec_no (by with_reducible assumption) ?_ | refine Br.yes (by with_reducible assumption) ?_ | refine Br.no (by with_reducible assumption) ?_ | refine Load.one (by rfl) (by with_reducible assumption) ?_ | refine (?_ : Sat _ _ _ _ _ _ _)); (first | refine Then.go hmix ?_ | refine Sat.go hmix ?_ | skip); conv => whnf))
          refine CallS.of (Try.call30 _ _) (r_size f ⟨A, R, h1⟩) ?_
          rintro e w2 ⟨rfl, k2⟩
          refine ⟨_, rfl, ?_⟩; (first | refine Then.go hmix ?_ | refine Sat.go hmix ?_ | refine ResK.go ?_ | skip); conv => whnf
          have h2 := h1.keep0 k2
          have kk := k1.trans0 k2
          (repeat ((first | refine Num.i64 (by omega) (by omega) ?_ | refine Num.i32 (by omega) (by omega) ?_ | refine Num.u8 (by omega) (by omega) ?_ | refine Br.tt ?_ | refine Br.ff ?_ | refine Br.not_yes ?_ | refine Br.dec_yes (by omega) ?_ | refine Br.dec_no (by omega) ?_ | refine Br.beq_yes (by omega) ?_ | refine Br.beq_no (by omega) ?_ | refine Br.bne_yes (by omega) ?_ | refine Br.bne_no (by omega) ?_ | refine Draw.text (by decide +kernel) ?_ | refine Idx.nat (by omega) ?_ | refine Idx.int (by omega) (by omega) ?_ | refine Cut.to (by omega) ?_ | refine Cut.from (by omega) (by omega) ?_ | refine Cut.both (by omega) (by omega) ?_ | refine Br.dec_yes (by with_reducible assumption) ?_ | refine Br.dec_no (by with_reducible assumption) ?_ | refine Br.yes (by with_reducible assumption) ?_ | refine Br.no (by with_reducible assumption) ?_ | refine Load.one (by rfl) (by with_reducible assumption) ?_ | refine (?_ : Sat _ _ _ _ _ _ _)); (first | refine Then.go hmix ?_ | refine Sat.go hmix ?_ | skip); conv => whnf))
          by_cases hle : sizeI (tick D) f + s.size ≤ 16777216
          · (repeat ((first | refine Num.i64 (by omega) (by omega) ?_ | refine Num.i32 (by omega) (by omega) ?_ | refine Num.u8 (by omega) (by omega) ?_ | refine Br.tt ?_ | refine Br.ff ?_ | refine Br.not_yes ?_ | refine Br.dec_yes (by omega) ?_ | refine Br.dec_no (by omega) ?_ | refine Br.beq_yes (by omega) ?_ | refine Br.beq_no (by omega) ?_ | refine Br.bne_yes (by omega) ?_ | refine Br.bne_no (by omega) ?_ | refine Draw.text (by decide +kernel) ?_ | refine Idx.nat (by omega) ?_ | refine Idx.int (by omega) (by omega) ?_ | refine Cut.to (by omega) ?_ | refine Cut.from (by omega) (by omega) ?_ | refine Cut.both (by omega) (by omega) ?_ | refine Br.dec_yes (by with_reducible assumption) ?_ | refine Br.dec_no (by with_reducible assumption) ?_ | refine Br.yes (by with_reducible assumption) ?_ | refine Br.no (by with_reducible assumption) ?_ | refine Load.one (by rfl) (by with_reducible assumption) ?_ | refine (?_ : Sat _ _ _ _ _ _ _)); (first | refine Then.go hmix ?_ | refine Sat.go hmix ?_ | skip); conv => whnf))
            have hx := hE.2 ⟨hf, hle⟩
            rw [if_pos hx]
            have h3 := h2.drew
            have d0 := h3.c0
            have dr := h3.cr f.toNat (by omega)
            have rl := h3.rel f.toNat (by omega)
            have hz : (A f.toNat).size + (R f.toNat).size + s.size ≤ 16777216 := by
              have : sizeI (tick D) f = ((tick D).S f.toNat).size := by unfold sizeI isB; rw [if_pos (by simp; omega)]
              rw [this, rl.1, ByteArray.size_append] at hle; omega
            (repeat ((first | refine Num.i64 (by omega) (by omega) ?_ | refine Num.i32 (by omega) (by omega) ?_ | refine Num.u8 (by omega) (by omega) ?_ | refine Br.tt ?_ | refine Br.ff ?_ | refine Br.not_yes ?_ | refine Br.dec_yes (by omega) ?_ | refine Br.dec_no (by omega) ?_ | refine Br.beq_yes (by omega) ?_ | refine Br.beq_no (by omega) ?_ | refine Br.bne_yes (by omega) ?_ | refine Br.bne_no (by omega) ?_ | refine Draw.text (by decide +kernel) ?_ | refine Idx.nat (by omega) ?_ | refine Idx.int (by omega) (by omega) ?_ | refine Cut.to (by omega) ?_ | refine Cut.from (by omega) (by omega) ?_ | refine Cut.both (by omega) (by omega) ?_ | refine Br.dec_yes (by with_reducible assumption) ?_ | refine Br.dec_no (by with_reducible assumption) ?_ | refine Br.yes (by with_reducible assumption) ?_ | refine Br.no (by with_reducible assumption) ?_ | refine Load.one (by rfl) (by with_reducible assumption) ?_ | refine (?_ : Sat _ _ _ _ _ _ _)); (first | refine Then.go hmix ?_ | refine Sat.go hmix ?_ | skip); conv => whnf))
            refine RunV.cat (by omega) ?_
            (first | refine Then.go hmix ?_ | refine Sat.go hmix ?_ | refine ResK.go ?_ | skip); conv => whnf
            (repeat ((first | refine Num.i64 (by omega) (by omega) ?_ | refine Num.i32 (by omega) (by omega) ?_ | refine Num.u8 (by omega) (by omega) ?_ | refine Br.tt ?_ | refine Br.ff ?_ | refine Br.not_yes ?_ | refine Br.dec_yes (by omega) ?_ | refine Br.dec_no (by omega) ?_ | refine Br.beq_yes (by omega) ?_ | refine Br.beq_no (by omega) ?_ | refine Br.bne_yes (by omega) ?_ | refine Br.bne_no (by omega) ?_ | refine Draw.text (by decide +kernel) ?_ | refine Idx.nat (by omega) ?_ | refine Idx.int (by omega) (by omega) ?_ | refine Cut.to (by omega) ?_ | refine Cut.from (by omega) (by omega) ?_ | refine Cut.both (by omega) (by omega) ?_ | refine Br.dec_yes (by with_reducible assumption) ?_ | refine Br.dec_no (by with_reducible assumption) ?_ | refine Br.yes (by with_reducible assumption) ?_ | refine Br.no (by with_reducible assumption) ?_ | refine Load.one (by rfl) (by with_reducible assumption) ?_ | refine (?_ : Sat _ _ _ _ _ _ _)); (first | refine Then.go hmix ?_ | refine Sat.go hmix ?_ | skip); conv => whnf))
            refine Store.one (by rfl) ⟨rfl, by simp, by simp⟩ (h3.cr f.toNat (by omega)) (h3.fzf _) ?_
            (first | refine Then.go hmix ?_ | refine Sat.go hmix ?_ | refine ResK.go ?_ | skip); conv => whnf
            have h4 := h3.setRest f.toNat (by omega) (R f.toNat ++ s) (by rw [ByteArray.size_append]; omega)
            have k4 := (kk.drew).trans' (two_setF w2.drew b bf (0 + f.toNat * 2 + 1) (.string (R f.toNat ++ s)))
            rw [← ByteArray.append_assoc, ← rl.1] at h4
            generalize w2.drew.setCell ⟨bf, 0 + f.toNat * 2 + 1, none⟩ (.string (R f.toNat ++ s)) = w4 at *
            obtain ⟨kv, kc, ks⟩ := RefAt.ks ⟨_, _, h4⟩
            obtain ⟨⟨va, vc, hvv⟩, _⟩ := ks.form
            rw [hvv] at kc
            (repeat ((first | refine Num.i64 (by omega) (by omega) ?_ | refine Num.i32 (by omega) (by omega) ?_ | refine Num.u8 (by omega) (by omega) ?_ | refine Br.tt ?_ | refine Br.ff ?_ | refine Br.not_yes ?_ | refine Br.dec_yes (by omega) ?_ | refine Br.dec_no (by omega) ?_ | refine Br.beq_yes (by omega) ?_ | refine Br.beq_no (by omega) ?_ | refine Br.bne_yes (by omega) ?_ | refine Br.bne_no (by omega) ?_ | refine Draw.text (by decide +kernel) ?_ | refine Idx.nat (by omega) ?_ | refine Idx.int (by omega) (by omega) ?_ | refine Cut.to (by omega) ?_ | refine Cut.from (by omega) (by omega) ?_ | refine Cut.both (by omega) (by omega) ?_ | refine Br.dec_yes (by with_reducible assumption) ?_ | refine Br.dec_no (by with_reducible assumption) ?_ | refine Br.yes (by with_reducible assumption) ?_ | refine Br.no (by with_reducible assumption) ?_ | refine Load.one (by rfl) (by with_reducible assumption) ?_ | refine (?_ : Sat _ _ _ _ _ _ _)); (first | refine Then.go hmix ?_ | refine Sat.go hmix ?_ | skip); conv => whnf))
            refine CallS.of (Try.call42 _ _) (r_crash _ _ (hvv ▸ ks) ⟨_, _, h4⟩) ?_
            rintro e w5 ⟨rfl, h5, k5⟩
            refine ⟨_, rfl, ?_⟩; (first | refine Then.go hmix ?_ | refine Sat.go hmix ?_ | refine ResK.go ?_ | skip); conv => whnf
            exact ⟨rfl, h5, k4.trans' k5⟩
          · (repeat ((first | refine Num.i64 (by omega) (by omega) ?_ | refine Num.i32 (by omega) (by omega) ?_ | refine Num.u8 (by omega) (by omega) ?_ | refine Br.tt ?_ | refine Br.ff ?_ | refine Br.not_yes ?_ | refine Br.dec_yes (by omega) ?_ | refine Br.dec_no (by omega) ?_ | refine Br.beq_yes (by omega) ?_ | refine Br.beq_no (by omega) ?_ | refine Br.bne_yes (by omega) ?_ | refine Br.bne_no (by omega) ?_ | refine Draw.text (by decide +kernel) ?_ | refine Idx.nat (by omega) ?_ | refine Idx.int (by omega) (by omega) ?_ | refine Cut.to (by omega) ?_ | refine Cut.from (by omega) (by omega) ?_ | refine Cut.both (by omega) (by omega) ?_ | refine Br.dec_yes (by with_reducible assumption) ?_ | refine Br.dec_no (by with_reducible assumption) ?_ | refine Br.yes (by with_reducible assumption) ?_ | refine Br.no (by with_reducible assumption) ?_ | refine Load.one (by rfl) (by with_reducible assumption) ?_ | refine (?_ : Sat _ _ _ _ _ _ _)); (first | refine Then.go hmix ?_ | refine Sat.go hmix ?_ | skip); conv => whnf))
            have hx : ¬ appE (tick D) f s = 0 := fun e => hle (hE.1 e).2
            rw [if_neg hx]
            obtain ⟨kv, kc, ks⟩ := RefAt.ks ⟨_, _, h2⟩
            obtain ⟨⟨va, vc, hvv⟩, _⟩ := ks.form
            rw [hvv] at kc
            (repeat ((first | refine Num.i64 (by omega) (by omega) ?_ | refine Num.i32 (by omega) (by omega) ?_ | refine Num.u8 (by omega) (by omega) ?_ | refine Br.tt ?_ | refine Br.ff ?_ | refine Br.not_yes ?_ | refine Br.dec_yes (by omega) ?_ | refine Br.dec_no (by omega) ?_ | refine Br.beq_yes (by omega) ?_ | refine Br.beq_no (by omega) ?_ | refine Br.bne_yes (by omega) ?_ | refine Br.bne_no (by omega) ?_ | refine Draw.text (by decide +kernel) ?_ | refine Idx.nat (by omega) ?_ | refine Idx.int (by omega) (by omega) ?_ | refine Cut.to (by omega) ?_ | refine Cut.from (by omega) (by omega) ?_ | refine Cut.both (by omega) (by omega) ?_ | refine Br.dec_yes (by with_reducible assumption) ?_ | refine Br.dec_no (by with_reducible assumption) ?_ | refine Br.yes (by with_reducible assumption) ?_ | refine Br.no (by with_reducible assumption) ?_ | refine Load.one (by rfl) (by with_reducible assumption) ?_ | refine (?_ : Sat _ _ _ _ _ _ _)); (first | refine Then.go hmix ?_ | refine Sat.go hmix ?_ | skip); conv => whnf))
            refine CallS.of (Try.call42 _ _) (r_crash _ _ (hvv ▸ ks) ⟨_, _, h2⟩) ?_
            rintro e w5 ⟨rfl, h5, k5⟩
            refine ⟨_, rfl, ?_⟩; (first | refine Then.go hmix ?_ | refine Sat.go hmix ?_ | refine ResK.go ?_ | skip); conv => whnf
            exact ⟨rfl, h5, kk.trans' k5⟩
        · have hx : ¬ appE (tick D) f s = 0 := fun e => hf (hE.1 e).1
          rw [if_neg hx]
          obtain ⟨kv, kc, ks⟩ := RefAt.ks ⟨_, _, h1⟩
          obtain ⟨⟨va, vc, hvv⟩, _⟩ := ks.form
          rw [hvv] at kc
          by_cases hf0 : f < 0
          · (repeat ((first | refine Num.i64 (by omega) (by omega) ?_ | refine Num.i32 (by omega) (by omega) ?_ | refine Num.u8 (by omega) (by omega) ?_ | refine Br.tt ?_ | refine Br.ff ?_ | refine Br.not_yes ?_ | refine Br.dec_yes (by omega) ?_ | refine Br.dec_no (by omega) ?_ | refine Br.beq_yes (by omega) ?_ | refine Br.beq_no (by omega) ?_ | refine Br.bne_yes (by omega) ?_ | refine Br.bne_no (by omega) ?_ | refine Draw.text (by decide +kernel) ?_ | refine Idx.nat (by omega) ?_ | refine Idx.int (by omega) (by omega) ?_ | refine Cut.to (by omega) ?_ | refine Cut.from (by omega) (by omega) ?_ | refine Cut.both (by omega) (by omega) ?_ | refine Br.dec_yes (by with_reducible assumption) ?_ | refine Br.dec_no (by with_reducible assumption) ?_ | refine Br.yes (by with_reducible assumption) ?_ | refine Br.no (by with_reducible assumption) ?_ | refine Load.one (by rfl) (by with_reducible assumption) ?_ | refine (?_ : Sat _ _ _ _ _ _ _)); (first | refine Then.go hmix ?_ | refine Sat.go hmix ?_ | skip); conv => whnf))
            refine CallS.of (Try.call42 _ _) (r_crash _ _ (hvv ▸ ks) ⟨_, _, h1⟩) ?_
            rintro e w5 ⟨rfl, h5, k5⟩
            refine ⟨_, rfl, ?_⟩; (first | refine Then.go hmix ?_ | refine Sat.go hmix ?_ | refine ResK.go ?_ | skip); conv => whnf
            exact ⟨rfl, h5, k1.trans' k5⟩
          · (repeat ((first | refine Num.i64 (by omega) (by omega) ?_ | refine Num.i32 (by omega) (by omega) ?_ | refine Num.u8 (by omega) (by omega) ?_ | refine Br.tt ?_ | refine Br.ff ?_ | refine Br.not_yes ?_ | refine Br.dec_yes (by omega) ?_ | refine Br.dec_no (by omega) ?_ | refine Br.beq_yes (by omega) ?_ | refine Br.beq_no (by omega) ?_ | refine Br.bne_yes (by omega) ?_ | refine Br.bne_no (by omega) ?_ | refine Draw.text (by decide +kernel) ?_ | refine Idx.nat (by omega) ?_ | refine Idx.int (by omega) (by omega) ?_ | refine Cut.to (by omega) ?_ | refine Cut.from (by omega) (by omega) ?_ | refine Cut.both (by omega) (by omega) ?_ | refine Br.dec_yes (by with_reducible assumption) ?_ | refine Br.dec_no (by with_reducible assumption) ?_ | refine Br.yes (by with_reducible assumption) ?_ | refine Br.no (by with_reducible assumption) ?_ | refine Load.one (by rfl) (by with_reducible assumption) ?_ | refine (?_ : Sat _ _ _ _ _ _ _)); (first | refine Then.go hmix ?_ | refine Sat.go hmix ?_ | skip); conv => whnf))
            refine CallS.of (Try.call42 _ _) (r_crash _ _ (hvv ▸ ks) ⟨_, _, h1⟩) ?_
            rintro e w5 ⟨rfl, h5, k5⟩
            refine ⟨_, rfl, ?_⟩; (first | refine Then.go hmix ?_ | refine Sat.go hmix ?_ | refine ResK.go ?_ | skip); conv => whnf
            exact ⟨rfl, h5, k1.trans' k5⟩
      · have he : endsB D = false := by simp [endsB, hd, h2]
        have e1 : comesD D f s = tick D := by unfold comesD; rw [he]; simp
        (repeat ((first | refine Num.i64 (by omega) (by omega) ?_ | refine Num.i32 (by omega) (by omega) ?_ | refine Num.u8 (by omega) (by omega) ?_ | refine Br.tt ?_ | refine Br.ff ?_ | refine Br.not_yes ?_ | refine Br.dec_yes (by omega) ?_ | refine Br.dec_no (by omega) ?_ | refine Br.beq_yes (by omega) ?_ | refine Br.beq_no (by omega) ?_ | refine Br.bne_yes (by omega) ?_ | refine Br.bne_no (by omega) ?_ | refine Draw.text (by decide +kernel) ?_ | refine Idx.nat (by omega) ?_ | refine Idx.int (by omega) (by omega) ?_ | refine Cut.to (by omega) ?_ | refine Cut.from (by omega) (by omega) ?_ | refine Cut.both (by omega) (by omega) ?_ | refine Br.dec_yes (by with_reducible assumption) ?_ | refine Br.dec_no (by with_reducible assumption) ?_ | refine Br.yes (by with_reducible assumption) ?_ | refine Br.no (by with_reducible assumption) ?_ | refine Load.one (by rfl) (by with_reducible assumption) ?_ | refine (?_ : Sat _ _ _ _ _ _ _)); (first | refine Then.go hmix ?_ | refine Sat.go hmix ?_ | skip); conv => whnf))
        exact ⟨rfl, by rw [e1]; exact ⟨A, R, h1⟩, k1⟩
  · have e1 : comesD D f s = D := by unfold comesD; rw [ends_dn hd, tick_dn hd]; simp
    (repeat ((first | refine Num.i64 (by omega) (by omega) ?_ | refine Num.i32 (by omega) (by omega) ?_ | refine Num.u8 (by omega) (by omega) ?_ | refine Br.tt ?_ | refine Br.ff ?_ | refine Br.not_yes ?_ | refine Br.dec_yes (by omega) ?_ | refine Br.dec_no (by omega) ?_ | refine Br.beq_yes (by omega) ?_ | refine Br.beq_no (by omega) ?_ | refine Br.bne_yes (by omega) ?_ | refine Br.bne_no (by omega) ?_ | refine Draw.text (by decide +kernel) ?_ | refine Idx.nat (by omega) ?_ | refine Idx.int (by omega) (by omega) ?_ | refine Cut.to (by omega) ?_ | refine Cut.from (by omega) (by omega) ?_ | refine Cut.both (by omega) (by omega) ?_ | refine Br.dec_yes (by with_reducible assumption) ?_ | refine Br.dec_no (by with_reducible assumption) ?_ | refine Br.yes (by with_reducible assumption) ?_ | refine Br.no (by with_reducible assumption) ?_ | refine Load.one (by rfl) (by with_reducible assumption) ?_ | refine (?_ : Sat _ _ _ _ _ _ _)); (first | refine Then.go hmix ?_ | refine Sat.go hmix ?_ | skip); conv => whnf))
    exact ⟨rfl, by rw [e1]; exact h', Keeps.refl _ _⟩
end
end Go.Proofs.Ytcnkbpghafhceaa
