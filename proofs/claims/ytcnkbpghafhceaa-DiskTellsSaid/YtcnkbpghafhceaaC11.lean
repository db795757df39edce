/- Helper text of this claim: C11: lemmas and contracts that the proved statement rests on; no conditions of its own. -/
import Derived.Test.YtcnkbpghafhceaaC10
namespace Go.Proofs.Ytcnkbpghafhceaa
open Go.RowKit Go.Pw Go.Pw.Dk
set_option maxHeartbeats 1000000 in
theorem c_arm (b : Nat) (D : St) (n : Int) (v : Value) (kl : List Int) (w : World) (h : DiskAt w b D) (hn : n ≤ 9223372036854775807) (hv : IntsNe b w v kl) (hk : kl.length ≤ 1000000000000) :
    Calls Try.prog 25 #[.pointer (some ⟨b, 0, none⟩), .int .i64 n, v] w fun e w' => e = .returned (.tuple #[]) ∧ DiskAt w' b (arm D n kl) ∧ Keeps w w' (one_ b) := by
  have H := Lib.hid h; have HV := Lib.hid hv; clear h hv
  have key : ∀ w1 v' (m : Int), DiskAt w1 b D → Ints 3 w1 v' kl → m = max n 0 → DiskAt ((w1.setCell ⟨b, 18, none⟩ (.int .i64 m)).setCell ⟨b, 19, none⟩ v') b (arm D n kl) := fun w1 v' m hd hi hm => by
    subst hm
    exact (hd.setArmed (max n 0) (by omega) (by omega)).setKeep v' kl (Ints.set hi hd.sh (by decide))
  have KEY := Lib.hid key; clear key
  by_cases hn0 : n < 0
  · go_enter Try.func25, Try.ntmps25
    go_wp2_with (first | (refine wp_region_text rfl (by decide +kernel) ?_) | (refine wpT_plain rfl rfl ?_; intro _ _) | (refine wpT_nil ?_))
    with_reducible refine (c_clone v kl _ b (by exact HV.out) hk).mono ?_
    rintro e w1 ⟨v', rfl, hi, hk1⟩
    obtain ⟨va, vn, vc, hvv⟩ : ∃ a n c, v' = .slice a n c := by
      rcases hi with ⟨e, _⟩ | ⟨_, _, _, _, e, _⟩ <;> exact ⟨_, _, _, e⟩
    rw [hvv]; rw [hvv] at hi; clear hvv
    have hd1 : DiskAt w1 b D := DiskAt.kept (c := none_) (by first | exact H.out | exact H.out.drew) hk1 id (fun _ _ _ => id)
    have f1 := hd1.armed; have f2 := hd1.fz; have f3 := hd1.lt; obtain ⟨kv, f4, _⟩ := hd1.keep
    have HD := Lib.hid hd1; have HI := Lib.hid hi; have K1 : Hid (Keeps w w1 (one_ b)) := (⟨hk1.os, hk1.tape, hk1.output, hk1.size, fun k h1 _ => hk1.block k h1 id⟩ : Keeps w w1 (one_ b))
    clear hd1 hi hk1
    go_wp2_with (first | (refine wpT_plain rfl rfl ?_; intro _ _) | (refine wpT_nil ?_))
    go_end0
    exact ⟨rfl, by repeat (first | with_reducible exact KEY.out _ _ _ HD.out HI.out (by omega) | with_reducible refine DiskAt.drew ?_), by repeat (first | with_reducible exact K1.out | with_reducible refine Keeps.drew ?_ | with_reducible refine Keeps.alloc ?_ _ | with_reducible refine Keeps.set1 ?_ _ _)⟩
  · go_enter Try.func25, Try.ntmps25
    go_wp2_with (first | (refine wp_region_text rfl (by decide +kernel) ?_) | (refine wpT_plain rfl rfl ?_; intro _ _) | (refine wpT_nil ?_))
    with_reducible refine (c_clone v kl _ b (by exact HV.out) hk).mono ?_
    rintro e w1 ⟨v', rfl, hi, hk1⟩
    obtain ⟨va, vn, vc, hvv⟩ : ∃ a n c, v' = .slice a n c := by
      rcases hi with ⟨e, _⟩ | ⟨_, _, _, _, e, _⟩ <;> exact ⟨_, _, _, e⟩
    rw [hvv]; rw [hvv] at hi; clear hvv
    have hd1 : DiskAt w1 b D := DiskAt.kept (c := none_) (by first | exact H.out | exact H.out.drew) hk1 id (fun _ _ _ => id)
    have f1 := hd1.armed; have f2 := hd1.fz; have f3 := hd1.lt; obtain ⟨kv, f4, _⟩ := hd1.keep
    have HD := Lib.hid hd1; have HI := Lib.hid hi; have K1 : Hid (Keeps w w1 (one_ b)) := (⟨hk1.os, hk1.tape, hk1.output, hk1.size, fun k h1 _ => hk1.block k h1 id⟩ : Keeps w w1 (one_ b))
    clear hd1 hi hk1
    go_wp2_with (first | (refine wpT_plain rfl rfl ?_; intro _ _) | (refine wpT_nil ?_))
    go_end0
    exact ⟨rfl, by repeat (first | with_reducible exact KEY.out _ _ _ HD.out HI.out (by omega) | with_reducible refine DiskAt.drew ?_), by repeat (first | with_reducible exact K1.out | with_reducible refine Keeps.drew ?_ | with_reducible refine Keeps.alloc ?_ _ | with_reducible refine Keeps.set1 ?_ _ _)⟩
end Go.Proofs.Ytcnkbpghafhceaa
