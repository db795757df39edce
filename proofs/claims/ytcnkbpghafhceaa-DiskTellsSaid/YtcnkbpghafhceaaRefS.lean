/- Helper text of this claim: RefS: lemmas and contracts that the proved statement rests on; no conditions of its own. -/
import Derived.Test.YtcnkbpghafhceaaRefT
namespace Go.Proofs.Ytcnkbpghafhceaa
open Go.RowKit Go.Pw Go.Pw.Dk Go.Vc
set_option linter.unusedVariables false
set_option maxRecDepth 100000
theorem build_files (w : World) : (Instr.buildSlice 60 0 #[]).run Try.prog w = .ok (.slice (some ⟨w.heap.size, 0, none⟩) 0 0) (w.alloc (.cells #[] 64)) := by
  simp [Instr.buildSlice, go_sem, Try.runUnderlying60]
theorem build_copy (a c : Option Addr) (l m n o : Nat) (x y : Int) (d : Bool) (w : World) : (Instr.build 62 [(0, .slice a l m), (1, .int .i64 x), (2, .bool d), (3, .int .i64 y), (4, .slice c n o)].toArray).run Try.prog w = .ok (.agg #[.slice a l m, .int .i64 x, .bool d, .int .i64 y, .slice c n o]) w := by
  simp [Instr.build, Instr.fill, go_sem, Try.runUnderlying62]
theorem own_form {u : World} {base e s n : Nat} {v : Value} {xs : List Value} (h : u.ownsRow base e s v n xs) : ∃ a l c, v = .slice a l c := by
  rcases h.2 with ⟨rfl, _⟩ | ⟨g, c, cur, rfl, _⟩ <;> exact ⟨_, _, _, rfl⟩
theorem grown_alloc (u : World) (o : Obj) (row : Option Nat) : u.grownBy (u.alloc o) row := ⟨rfl, rfl, rfl, by simp, fun k hk _ => RowKit.Below.heap_alloc _ _ _ hk⟩
theorem own_made (u : World) (e s base : Nat) (hb : base ≤ u.heap.size) : (u.alloc (.cells #[] e)).ownsRow base e s (.slice (some ⟨u.heap.size, 0, none⟩) 0 0) 0 [] := World.ownsRow_made u #[] 0 hb (by decide) (by simp)
theorem own_alloc {u : World} {base e s n : Nat} {v : Value} {xs : List Value} (h : u.ownsRow base e s v n xs) (o : Obj) : (u.alloc o).ownsRow base e s v n xs := by
  refine h.kept (grown_alloc u o none) ?_
  cases v.ownBlock <;> simp
theorem own_grown {u u' : World} {base e s n g : Nat} {v : Value} {xs : List Value} (h : u.ownsRow base e s v n xs) (hg : u.grownBy u' (some g)) (hne : ∀ k, v.ownBlock = some k → k ≠ g) : u'.ownsRow base e s v n xs := by
  refine h.kept hg ?_
  cases hv : v.ownBlock with
  | none => exact .inl rfl
  | some k => exact .inr fun e => hne k hv (by injection e)
theorem own_ne {u : World} {base base' e e' s s' n m c g m' : Nat} {v : Value} {xs xs' : List Value} (h : u.ownsRow base e s v n xs) (h' : u.ownsRow base' e' s' (.slice (some ⟨g, 0, none⟩) m c) m' xs') (hne : e ≠ e') : ∀ k, v.ownBlock = some k → k ≠ g := by
  intro k hk hkg
  subst hkg
  rcases h.2 with ⟨rfl, _⟩ | ⟨g1, _, cur, rfl, _, hg, _⟩
  · cases hk
  · simp only [Value.ownBlock, Option.some.injEq] at hk
    subst hk
    rcases h'.2 with ⟨h0, _⟩ | ⟨g2, _, cur2, h0, _, hg2, _⟩
    · cases h0
    · injection h0 with h0
      injection h0 with h0
      injection h0 with h0
      subst h0
      rw [hg] at hg2
      injection hg2 with hg2
      injection hg2 with _ hg2
      exact hne hg2
section
variable {w u : World} {b bf cap : Nat} {D : St} {A R : Nat → ByteArray}
set_option maxHeartbeats 4000000 in
theorem r_copy (h : RefAt w b bf cap D) (hn : D.kl.length ≤ 1000000000000) : Calls Try.prog 27 #[.pointer (some ⟨b, 0, none⟩)] w fun e w' => ∃ b' bf' cap', e = .returned (.pointer (some ⟨b', 0, none⟩)) ∧ RefAt w' b' bf' cap' D ∧ w.heap.size ≤ b' ∧ w.heap.size ≤ bf' ∧ Keeps w w' none_ := by
  obtain ⟨A, R, h⟩ := h
  obtain ⟨kv, c4, hk⟩ := h.keep
  obtain ⟨sa, sl, sc, rfl⟩ := ints_form hk
  have f0 : ∀ u, Keeps w u none_ → u.cell? ⟨b, 0, none⟩ = some (.slice (some ⟨bf, 0, none⟩) 8 cap) := fun u k => (h.keep0 k).c0
  have f1 : ∀ u, Keeps w u none_ → u.cell? ⟨b, 0 + 1, none⟩ = some (.int .i64 D.lost) := fun u k => (h.keep0 k).lost
  have f2 : ∀ u, Keeps w u none_ → u.cell? ⟨b, 0 + 2, none⟩ = some (.bool D.down) := fun u k => (h.keep0 k).down
  have f3 : ∀ u, Keeps w u none_ → u.cell? ⟨b, 0 + 3, none⟩ = some (.int .i64 D.armed) := fun u k => (h.keep0 k).armed
  have f4 : ∀ u, Keeps w u none_ → u.cell? ⟨b, 0 + 4, none⟩ = some (.slice sa sl sc) := fun u k => (k.cell h.lt id).trans c4
  refine calls_of_vc (args := [.pointer (some ⟨b, 0, none⟩)]) Try.func27 rfl (Nat.le_of_ble_eq_true rfl) ?_; refine Sat.go hmix ?_; conv => whnf
  refine Draw.orders (Keeps w · none_) (fun _ => true) [List.range 27, [0, 1, 2, 3, 4, 18, 5, 6, 7, 8, 9, 10, 11, 12, 13, 14, 15, 16, 17, 19, 20, 21, 22, 23, 24, 25, 26], [18, 0, 1, 2, 3, 4, 5, 6, 7, 8, 9, 10, 11, 12, 13, 14, 15, 16, 17, 19, 20, 21, 22, 23, 24, 25, 26]] (by decide +kernel) (Keeps.refl _ _).drew ?_
  intro L hL
  simp only [List.mem_cons, List.not_mem_nil, or_false] at hL
  rcases hL with rfl | rfl | rfl
  · (first | refine Then.go hmix ?_ | refine Sat.go hmix ?_ | refine ResK.go ?_ | skip); conv => whnf
    refine RunV.of (build_files _) ?_
    have k1 : Keeps w (w.drew.alloc (.cells #[] 64)) none_ := (Keeps.refl _ _).drew.alloc _
    have o1 := own_made w.drew 64 2 w.heap.size (Nat.le_refl _)
    generalize w.drew.alloc (.cells #[] 64) = u1 at *
    refine ⟨k1, ?_⟩
    (first | refine Then.go hmix ?_ | refine Sat.go hmix ?_ | refine ResK.go ?_ | skip); conv => whnf
    refine Held.one (by rfl) f0 ?_
    (first | refine Then.go hmix ?_ | refine Sat.go hmix ?_ | refine ResK.go ?_ | skip); conv => whnf
    refine app_files h k1 _ 0 o1 (fun v2 u2 o2 g2 => ?_)
    have k2 := keeps_grown k1 g2 (fun k e => .inr (by cases e; exact Nat.le_refl _))
    obtain ⟨va, vl, vc, rfl⟩ := own_form o2
    refine ⟨k2, ?_⟩
    (first | refine Then.go hmix ?_ | refine Sat.go hmix ?_ | refine ResK.go ?_ | skip); conv => whnf
    refine Held.one (by rfl) f1 ?_
    (first | refine Then.go hmix ?_ | refine Sat.go hmix ?_ | refine ResK.go ?_ | skip); conv => whnf
    refine Held.one (by rfl) f2 ?_
    (first | refine Then.go hmix ?_ | refine Sat.go hmix ?_ | refine ResK.go ?_ | skip); conv => whnf
    refine Held.one (by rfl) f3 ?_
    (first | refine Then.go hmix ?_ | refine Sat.go hmix ?_ | refine ResK.go ?_ | skip); conv => whnf
    refine RunV.of (build_zero u2) ?_
    have k3 : Keeps w (u2.alloc (.cells #[] 3)) none_ := k2.alloc _
    have o3 := own_made u2 3 1 w.heap.size k2.size
    have p3 := own_alloc o2 (.cells #[] 3)
    have hlt := fun k e => (o2.lt k e).2
    generalize u2.alloc (.cells #[] 3) = u3 at *
    refine ⟨k3, ?_⟩
    (first | refine Then.go hmix ?_ | refine Sat.go hmix ?_ | refine ResK.go ?_ | skip); conv => whnf
    refine Held.one (by rfl) f4 ?_
    (first | refine Then.go hmix ?_ | refine Sat.go hmix ?_ | refine ResK.go ?_ | skip); conv => whnf
    refine app_kept h k3 hk hn _ 0 o3 (fun v4 u4 o4 g4 => ?_)
    have p4 := own_grown p3 g4 (fun k e => Nat.ne_of_lt (hlt k e))
    have k4 := keeps_grown k3 g4 (fun k e => .inr (by cases e; exact k2.size))
    obtain ⟨xa, xl, xc, rfl⟩ := own_form o4
    refine ⟨k4, ?_⟩
    (first | refine Then.go hmix ?_ | refine Sat.go hmix ?_ | refine ResK.go ?_ | skip); conv => whnf
    refine RunV.of (build_copy _ _ _ _ _ _ _ _ _ _) ?_
    (first | refine Then.go hmix ?_ | refine Sat.go hmix ?_ | refine ResK.go ?_ | skip); conv => whnf
    obtain ⟨b1, c1, q1, q2, q3, q4⟩ := copy_fin h k4 p4 o4
    refine ⟨q4, ?_⟩
    (first | refine Then.go hmix ?_ | refine Sat.go hmix ?_ | refine ResK.go ?_ | skip); conv => whnf
    exact ⟨_, _, _, rfl, q1, q2, q3, q4⟩
  · (first | refine Then.go hmix ?_ | refine Sat.go hmix ?_ | refine ResK.go ?_ | skip); conv => whnf
    refine RunV.of (build_files _) ?_
    have k1 : Keeps w (w.drew.alloc (.cells #[] 64)) none_ := (Keeps.refl _ _).drew.alloc _
    have oF1 := own_made w.drew 64 2 w.heap.size (Nat.le_refl _)
    generalize w.drew.alloc (.cells #[] 64) = u1 at *
    refine ⟨k1, ?_⟩
    (first | refine Then.go hmix ?_ | refine Sat.go hmix ?_ | refine ResK.go ?_ | skip); conv => whnf
    refine Held.one (by rfl) f0 ?_
    (first | refine Then.go hmix ?_ | refine Sat.go hmix ?_ | refine ResK.go ?_ | skip); conv => whnf
    refine RunV.of (build_zero u1) ?_
    have k2 : Keeps w (u1.alloc (.cells #[] 3)) none_ := k1.alloc _
    have oI := own_made u1 3 1 w.heap.size k1.size
    have oF := own_alloc oF1 (.cells #[] 3)
    generalize u1.alloc (.cells #[] 3) = u2 at *
    refine ⟨k2, ?_⟩
    (first | refine Then.go hmix ?_ | refine Sat.go hmix ?_ | refine ResK.go ?_ | skip); conv => whnf
    refine app_files h k2 _ 0 oF (fun v3 u3 o3 g3 => ?_)
    have k3 := keeps_grown k2 g3 (fun k e => .inr (oF.lt k e).1)
    have oI3 := own_grown oI g3 (own_ne oI oF (by decide))
    obtain ⟨va, vl, vc, rfl⟩ := own_form o3
    refine ⟨k3, ?_⟩
    (first | refine Then.go hmix ?_ | refine Sat.go hmix ?_ | refine ResK.go ?_ | skip); conv => whnf
    refine Held.one (by rfl) f1 ?_
    (first | refine Then.go hmix ?_ | refine Sat.go hmix ?_ | refine ResK.go ?_ | skip); conv => whnf
    refine Held.one (by rfl) f2 ?_
    (first | refine Then.go hmix ?_ | refine Sat.go hmix ?_ | refine ResK.go ?_ | skip); conv => whnf
    refine Held.one (by rfl) f3 ?_
    (first | refine Then.go hmix ?_ | refine Sat.go hmix ?_ | refine ResK.go ?_ | skip); conv => whnf
    refine Held.one (by rfl) f4 ?_
    (first | refine Then.go hmix ?_ | refine Sat.go hmix ?_ | refine ResK.go ?_ | skip); conv => whnf
    refine app_kept h k3 hk hn _ 0 oI3 (fun v4 u4 o4 g4 => ?_)
    have p4 := own_grown o3 g4 (own_ne o3 oI3 (by decide))
    have k4 := keeps_grown k3 g4 (fun k e => .inr (oI3.lt k e).1)
    obtain ⟨xa, xl, xc, rfl⟩ := own_form o4
    refine ⟨k4, ?_⟩
    (first | refine Then.go hmix ?_ | refine Sat.go hmix ?_ | refine ResK.go ?_ | skip); conv => whnf
    refine RunV.of (build_copy _ _ _ _ _ _ _ _ _ _) ?_
    (first | refine Then.go hmix ?_ | refine Sat.go hmix ?_ | refine ResK.go ?_ | skip); conv => whnf
    obtain ⟨b1, c1, q1, q2, q3, q4⟩ := copy_fin h k4 p4 o4
    refine ⟨q4, ?_⟩
    (first | refine Then.go hmix ?_ | refine Sat.go hmix ?_ | refine ResK.go ?_ | skip); conv => whnf
    exact ⟨_, _, _, rfl, q1, q2, q3, q4⟩
  · (first | refine Then.go hmix ?_ | refine Sat.go hmix ?_ | refine ResK.go ?_ | skip); conv => whnf
    refine RunV.of (build_zero _) ?_
    have k1 : Keeps w (w.drew.alloc (.cells #[] 3)) none_ := (Keeps.refl _ _).drew.alloc _
    have oI1 := own_made w.drew 3 1 w.heap.size (Nat.le_refl _)
    generalize w.drew.alloc (.cells #[] 3) = u1 at *
    refine ⟨k1, ?_⟩
    (first | refine Then.go hmix ?_ | refine Sat.go hmix ?_ | refine ResK.go ?_ | skip); conv => whnf
    refine RunV.of (build_files u1) ?_
    have k2 : Keeps w (u1.alloc (.cells #[] 64)) none_ := k1.alloc _
    have oF := own_made u1 64 2 w.heap.size k1.size
    have oI := own_alloc oI1 (.cells #[] 64)
    generalize u1.alloc (.cells #[] 64) = u2 at *
    refine ⟨k2, ?_⟩
    (first | refine Then.go hmix ?_ | refine Sat.go hmix ?_ | refine ResK.go ?_ | skip); conv => whnf
    refine Held.one (by rfl) f0 ?_
    (first | refine Then.go hmix ?_ | refine Sat.go hmix ?_ | refine ResK.go ?_ | skip); conv => whnf
    refine app_files h k2 _ 0 oF (fun v3 u3 o3 g3 => ?_)
    have k3 := keeps_grown k2 g3 (fun k e => .inr (oF.lt k e).1)
    have oI3 := own_grown oI g3 (own_ne oI oF (by decide))
    obtain ⟨va, vl, vc, rfl⟩ := own_form o3
    refine ⟨k3, ?_⟩
    (first | refine Then.go hmix ?_ | refine Sat.go hmix ?_ | refine ResK.go ?_ | skip); conv => whnf
    refine Held.one (by rfl) f1 ?_
    (first | refine Then.go hmix ?_ | refine Sat.go hmix ?_ | refine ResK.go ?_ | skip); conv => whnf
    refine Held.one (by rfl) f2 ?_
    (first | refine Then.go hmix ?_ | refine Sat.go hmix ?_ | refine ResK.go ?_ | skip); conv => whnf
    refine Held.one (by rfl) f3 ?_
    (first | refine Then.go hmix ?_ | refine Sat.go hmix ?_ | refine ResK.go ?_ | skip); conv => whnf
    refine Held.one (by rfl) f4 ?_
    (first | refine Then.go hmix ?_ | refine Sat.go hmix ?_ | refine ResK.go ?_ | skip); conv => whnf
    refine app_kept h k3 hk hn _ 0 oI3 (fun v4 u4 o4 g4 => ?_)
    have p4 := own_grown o3 g4 (own_ne o3 oI3 (by decide))
    have k4 := keeps_grown k3 g4 (fun k e => .inr (oI3.lt k e).1)
    obtain ⟨xa, xl, xc, rfl⟩ := own_form o4
    refine ⟨k4, ?_⟩
    (first | refine Then.go hmix ?_ | refine Sat.go hmix ?_ | refine ResK.go ?_ | skip); conv => whnf
    refine RunV.of (build_copy _ _ _ _ _ _ _ _ _ _) ?_
    (first | refine Then.go hmix ?_ | refine Sat.go hmix ?_ | refine ResK.go ?_ | skip); conv => whnf
    obtain ⟨b1, c1, q1, q2, q3, q4⟩ := copy_fin h k4 p4 o4
    refine ⟨q4, ?_⟩
    (first | refine Then.go hmix ?_ | refine Sat.go hmix ?_ | refine ResK.go ?_ | skip); conv => whnf
    exact ⟨_, _, _, rfl, q1, q2, q3, q4⟩
end
end Go.Proofs.Ytcnkbpghafhceaa
