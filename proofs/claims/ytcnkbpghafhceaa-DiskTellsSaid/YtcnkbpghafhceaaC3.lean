/- Helper text of this claim: C3: lemmas and contracts that the proved statement rests on; no conditions of its own. -/
import Derived.Test.YtcnkbpghafhceaaC2
import Derived.Deep.DeepFit
namespace Go.Proofs.Ytcnkbpghafhceaa
open Go.RowKit Go.Pw Go.Pw.Dk
theorem DiskAt.same {w : World} {b : Nat} {A B : St} (h : DiskAt w b A) (e : A.same B) : DiskAt w b B := by
  obtain ⟨e1, e2, e3, e4, e5⟩ := e
  refine ⟨h.sh, h.fz, fun i hi => by rw [← (e1 i hi).1]; exact h.s i hi, fun i hi => by rw [← (e1 i hi).2]; exact h.l i hi, by rw [← e2]; exact h.lost, by rw [← e3]; exact h.down, by rw [← e4]; exact h.armed, by rw [← e5]; exact h.keep, ?_⟩
  obtain ⟨o, r⟩ := h.ok
  exact ⟨fun i hi => by rw [← (e1 i hi).1, ← (e1 i hi).2]; exact o i hi, by rw [← e2, ← e4]; exact r⟩
theorem crash_step {w : World} {b : Nat} {D : St} {kl : List Int} {k : Nat} (hk : k < 8) (ho : D.L k ≤ (D.S k).size ∧ (D.S k).size ≤ 16777216) (h : DiskAt w b (crashK D kl k)) (n : Nat) (hn : n = D.L k + kept D kl k) :
    DiskAt ((w.setCell ⟨b, k * 2, none⟩ (.string ((D.S k).extract 0 n))).setCell ⟨b, k * 2 + 1, none⟩ (.int .i64 n)) b (crashK D kl (k + 1)) := by
  have h1 := kept_lt D kl k ho.1
  subst hn
  have e : (crashK D kl k).L k = D.L k := by simp [crashK]
  rw [crashK_succ]
  have hsz : ((D.S k).extract 0 (D.L k + kept D kl k)).size = D.L k + kept D kl k := by rw [ByteArray.size_extract]; omega
  have := (h.setS k hk ((D.S k).extract 0 (D.L k + kept D kl k)) (by rw [e, hsz]; omega)).setL k hk (D.L k + kept D kl k) (by show _ ≤ ((upd (crashK D kl k).S k ((D.S k).extract 0 (D.L k + kept D kl k))) k : ByteArray).size; rw [upd_same, hsz]; omega)
  exact this
/-- A slice of int that reads as zs and lies outside block b. -/
def IntsNe (b : Nat) (w : World) (v : Value) (zs : List Int) : Prop :=
  (∃ a cap, v = .slice a 0 cap ∧ zs = []) ∨
  ∃ kb ko cap, v = .slice (some ⟨kb, ko, none⟩) zs.length cap ∧ kb < w.heap.size ∧ kb ≠ b ∧ zs.length ≤ 9223372036854775807 ∧
    ∀ i, i < zs.length → w.cell? ⟨kb, ko + i, none⟩ = some (.int .i64 (zs.getD i 0))
theorem ints_ne {w : World} {v : Value} {zs : List Int} {b : Nat} (h : Ints 3 w v zs) (hs : w.shape? b = some (55, 20)) : IntsNe b w v zs := by
  rcases h with h | ⟨kb, ko, cap, n, h1, h2, h3, h4⟩
  · exact .inl ⟨none, 0, h⟩
  · exact .inr ⟨kb, ko, cap, h1, shape_lt h2, fun e => (by subst e; rw [hs] at h2; cases h2), h3, h4⟩
set_option maxHeartbeats 1000000 in
theorem c_crashNe (b : Nat) (D : St) (v : Value) (kl : List Int) (w : World) (h : DiskAt w b D) (hv : IntsNe b w v kl) :
    Calls Try.prog 14 #[.pointer (some ⟨b, 0, none⟩), v] w fun e w' => e = .returned (.tuple #[]) ∧ DiskAt w' b (crash D kl) ∧ Keeps w w' (one_ b) := by
  have h1 := h.down; have h3 := h.fz; have h4 := h.armed
  have ho := h.ok
  have H := Lib.hid h
  cases hd : D.down
  case true =>
    have e : crash D kl = D := by simp [crash, hd]
    rw [e]; clear e; rw [hd] at h1; clear hd h
    go_enter Try.func14, Try.ntmps14
    go_wp2
    refine bodyPost_ret (results_none rfl _ _ _) rfl ?_
    exact ⟨rfl, H.out, Keeps.refl _ _⟩
  have start : DiskAt ((w.setCell ⟨b, 17, none⟩ (.bool true)).setCell ⟨b, 18, none⟩ (.int .i64 0)) b (crashK D kl 0) := by
    rw [crashK_zero]; exact (h.setDown true).setArmed 0 (by omega) (by omega)
  have K0 : Keeps w ((w.setCell ⟨b, 17, none⟩ (.bool true)).setCell ⟨b, 18, none⟩ (.int .i64 0)) (one_ b) := (keeps_set _ _ _ _).trans' (keeps_set _ _ _ _)
  have fin : ∀ w', DiskAt w' b (crashK D kl 8) → DiskAt w' b (crash D kl) := fun w' h => h.same (crashK_8 D kl hd)
  have sh := h.sh
  have HS := Lib.hid start; have HK := Lib.hid K0; have HF := Lib.hid fin; have HV := Lib.hid hv; have HO := Lib.hid ho
  rw [hd] at h1
  clear hd h start K0 fin hv ho H
  have HSH := Lib.hid sh; clear sh
  obtain ⟨len, cap, a, ev, hlen⟩ : ∃ len cap a, v = .slice a len cap ∧ len = kl.length := by
    rcases HV.out with ⟨a, cap, h1, h2⟩ | ⟨kb, ko, cap, h1, _⟩
    · exact ⟨0, cap, a, h1, by rw [h2]; rfl⟩
    · exact ⟨_, cap, _, h1, rfl⟩
  have HE := Lib.hid ev
  rw [ev]; clear ev
  have hlm : len ≤ 9223372036854775807 := by
    rcases HV.out with ⟨_, _, h1, h2⟩ | ⟨kb, ko, cap, h1, _, _, hl, _⟩
    · rw [hlen, h2]; simp
    · omega
  have HL := Lib.hid hlen; clear hlen
  go_enter Try.func14, Try.ntmps14
  go_wp2
  go_loopw [17] (fun i wr => ∃ k : Nat, k ≤ 8 ∧ i = .int .i64 k ∧ DiskAt wr b (crashK D kl k) ∧ Keeps w wr (one_ b)) (fun i _ => 8 - (intOf i).toNat)
  case atStart => exact ⟨0, by omega, rfl, HS.out, HK.out⟩
  case round =>
    obtain ⟨k, hk, rfl, hD, hKp⟩ := hrel
    by_cases hlt : k < 8
    · have f1 : wr.cell? ⟨b, k * 2, none⟩ = some (.string (D.S k)) := by have := hD.s k hlt; simpa [crashK] using this
      have f2 : wr.cell? ⟨b, k * 2 + 1, none⟩ = some (.int .i64 (D.L k)) := by have := hD.l k hlt; simpa [crashK] using this
      have f3 := hD.fz
      have f4 : b < wr.heap.size := hD.lt
      obtain ⟨o1, o2⟩ := HO.out.1 k hlt
      have HD := Lib.hid hD; have HP := Lib.hid hKp
      clear hD hKp
      have stp : ∀ (x : ByteArray) (n : Int), x = (D.S k).extract 0 (D.L k + Dk.kept D kl k) → n = ((D.L k + Dk.kept D kl k : Nat) : Int) → DiskAt ((wr.setCell ⟨b, k * 2, none⟩ (.string x)).setCell ⟨b, k * 2 + 1, none⟩ (.int .i64 n)) b (crashK D kl (k + 1)) := fun x n hx hn => by
        subst hx; subst hn; exact crash_step hlt ⟨o1, o2⟩ HD.out _ rfl
      have HST := Lib.hid stp; clear stp
      by_cases hin : k < len
      · obtain ⟨kb, ko, ha, hkc⟩ : ∃ kb ko, a = some ⟨kb, ko, none⟩ ∧ wr.cell? ⟨kb, ko + k, none⟩ = some (.int .i64 (kl.getD k 0)) := by
          have hlen := HL.out
          rcases HV.out with ⟨_, _, h1, h2⟩ | ⟨kb, ko, cap', h1, hs, hne', hl, hc⟩
          · rw [h2] at hlen; simp at hlen; omega
          · have he := HE.out
            rw [h1] at he
            injection he with he1 he2 he3
            refine ⟨kb, ko, he1.symm, ?_⟩
            have hne : ¬ one_ b kb := hne'
            rw [HP.out.cell hs hne]
            exact hc k (by omega)
        subst ha
        generalize hz : kl.getD k 0 = z at hkc
        have hkin : k < kl.length := by rw [← HL.out]; exact hin
        have HN : Hid (Dk.kept D kl k = min z.toNat ((D.S k).size - D.L k)) := by show Dk.kept D kl k = _; unfold Dk.kept; rw [if_pos hkin, hz]
        have HI := Lib.hid hkin
        clear hkin hz
        by_cases hz0 : z < 0
        · have hq : D.L k = D.L k + Dk.kept D kl k := by rw [HN.out]; omega
          have HQ := Lib.hid hq; clear hq
          go_wp2_with (first | (refine wp_region_text rfl (by decide +kernel) ?_) | (refine wpT_plain rfl rfl ?_; intro _ _) | (refine wpT_nil ?_))
          go_roundw
          case rel => refine ⟨k + 1, by omega, by go_num, ?_, by repeat (first | with_reducible exact (HP.out.trans' (keeps_set _ _ _ _)).trans' (keeps_set _ _ _ _) | with_reducible refine Keeps.drew ?_)⟩; (repeat (with_reducible refine DiskAt.drew ?_)); with_reducible refine HST.out _ _ ?_ ?_ <;> (rw [← HQ.out]; first | done | omega | exact ByteArray.extract_zero_size.symm)
          case measure => simp [intOf]; omega
        · have hzm : z = (z.toNat : Int) := by omega
          generalize z.toNat = m at hzm HN
          rw [hzm] at hkc hz0
          clear hzm
          by_cases hz1 : m ≤ (D.S k).size - D.L k
          · have hq : D.L k + m = D.L k + Dk.kept D kl k := by rw [HN.out]; omega
            have HQ := Lib.hid hq; clear hq
            go_wp2_with (first | (refine wp_region_text rfl (by decide +kernel) ?_) | (refine wpT_plain rfl rfl ?_; intro _ _) | (refine wpT_nil ?_))
            go_roundw
            case rel => refine ⟨k + 1, by omega, by go_num, ?_, by repeat (first | with_reducible exact (HP.out.trans' (keeps_set _ _ _ _)).trans' (keeps_set _ _ _ _) | with_reducible refine Keeps.drew ?_)⟩; (repeat (with_reducible refine DiskAt.drew ?_)); with_reducible refine HST.out _ _ ?_ ?_ <;> (rw [← HQ.out]; first | done | omega | exact ByteArray.extract_zero_size.symm)
            case measure => simp [intOf]; omega
          · have hq : (D.S k).size = D.L k + Dk.kept D kl k := by rw [HN.out]; omega
            have HQ := Lib.hid hq; clear hq
            go_wp2_with (first | (refine wp_region_text rfl (by decide +kernel) ?_) | (refine wpT_plain rfl rfl ?_; intro _ _) | (refine wpT_nil ?_))
            go_roundw
            case rel => refine ⟨k + 1, by omega, by go_num, ?_, by repeat (first | with_reducible exact (HP.out.trans' (keeps_set _ _ _ _)).trans' (keeps_set _ _ _ _) | with_reducible refine Keeps.drew ?_)⟩; (repeat (with_reducible refine DiskAt.drew ?_)); with_reducible refine HST.out _ _ ?_ ?_ <;> (rw [← HQ.out]; first | done | omega | exact ByteArray.extract_zero_size.symm)
            case measure => simp [intOf]; omega
      · have hq : D.L k = D.L k + Dk.kept D kl k := by unfold Dk.kept; rw [if_neg (by rw [← HL.out]; exact hin)]; rfl
        have HQ := Lib.hid hq; clear hq
        go_wp2_with (first | (refine wp_region_text rfl (by decide +kernel) ?_) | (refine wpT_plain rfl rfl ?_; intro _ _) | (refine wpT_nil ?_))
        go_roundw
        case rel => refine ⟨k + 1, by omega, by go_num, ?_, by repeat (first | with_reducible exact (HP.out.trans' (keeps_set _ _ _ _)).trans' (keeps_set _ _ _ _) | with_reducible refine Keeps.drew ?_)⟩; (repeat (with_reducible refine DiskAt.drew ?_)); with_reducible refine HST.out _ _ ?_ ?_ <;> (rw [← HQ.out]; first | done | omega | exact ByteArray.extract_zero_size.symm)
        case measure => simp [intOf]; omega
    · obtain rfl : k = 8 := by omega
      have HD := Lib.hid hD; have HP := Lib.hid hKp; clear hD hKp
      go_wp2
      go_end0
      exact ⟨rfl, HF.out _ HD.out, HP.out⟩
theorem c_crash (b : Nat) (D : St) (v : Value) (kl : List Int) (w : World) (h : DiskAt w b D) (hv : Ints 3 w v kl) :
    Calls Try.prog 14 #[.pointer (some ⟨b, 0, none⟩), v] w fun e w' => e = .returned (.tuple #[]) ∧ DiskAt w' b (crash D kl) ∧ Keeps w w' (one_ b) :=
  c_crashNe b D v kl w h (ints_ne hv h.sh)
end Go.Proofs.Ytcnkbpghafhceaa
