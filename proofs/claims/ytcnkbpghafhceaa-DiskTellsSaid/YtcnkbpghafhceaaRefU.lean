/- Helper text of this claim: RefU: lemmas and contracts that the proved statement rests on; no conditions of its own. -/
import Derived.Test.YtcnkbpghafhceaaRefV
namespace Go.Proofs.Ytcnkbpghafhceaa
open Go.RowKit Go.Pw Go.Pw.Dk Go.Vc
set_option linter.unusedVariables false
set_option maxRecDepth 100000
theorem append_nil_any (t ty : TypeId) (e : TypeId) (i : TypeInfo) (ht : Try.prog.underlying t = some (.slice e)) (hi : Try.prog.info? e = some i) (a : Option Addr) (cs : Array Bool) (c : Nat) (w : World) :
    (builtin .append #[t, t] ty cs [.slice a 0 0, .slice none 0 c].toArray).run Try.prog w = .ok (.value (.slice a 0 0)) w := by
  show (do pure (Next.value (← Builtin.append_ #[t, t] ty #[.slice a 0 0, .slice none 0 c])) : Sem Next).run Try.prog w = _
  cases a <;> simp [Builtin.append_, run_underlying ht, sizeOf, typeInfo, hi, Builtin.lenOf, Builtin.firstCells, storeCells]
theorem info3' : (Try.prog.info? 3).map (fun i => (i.zero, i.size, i.bytes)) = some (some (.int .i64 0), 1, 8) := by kernel_rfl
section
variable {w : World} {b bf cap : Nat} {D : St} {A R : Nat → ByteArray}
theorem ints_form {w : World} {v : Value} {kl : List Int} (h : Ints 3 w v kl) : ∃ a l c, v = .slice a l c := by
  rcases h with ⟨rfl, _⟩ | ⟨_, _, _, _, rfl, _⟩ <;> exact ⟨_, _, _, rfl⟩
/-- 'append([]int{}, kl...)' -/
theorem append_ints {K : Value → World → Prop} {cs : Array Bool} (kv : Value) (kl : List Int) (w : World) (hv : Ks w b bf kv kl) (hn : kl.length ≤ 1000000000000)
    (k : ∀ v' w', Ints 3 w' v' kl → Keeps w w' none_ → K v' w') :
    RunN Try.prog (builtin .append #[22, 22] 22 cs [.slice (some ⟨w.heap.size, 0, none⟩) 0 0, kv].toArray) (w.alloc (.cells #[] 3)) K := by
  obtain ⟨i0, hi, hz0, hz1, hz2⟩ := info_parts info3'
  have hown := owns_nil w 3
  have fin : ∀ v' w', w'.ownsRow w.heap.size 3 1 v' kl.length (kl.map (Value.int .i64)) → (w.alloc (.cells #[] 3)).grownBy w' (some w.heap.size) → K v' w' := fun v' w' h1 h2 =>
    k v' w' (ints_owns h1) (keeps_grown ((Keeps.refl _ _).alloc _) h2 (fun k hk => .inr (by cases hk; exact Nat.le_refl _)))
  have one : ∀ (ad : Addr) (len c : Nat), len = kl.length → (∀ j u, (kl.map (Value.int .i64))[j]? = some u → (w.alloc (.cells #[] 3)).cell? (ad.add j) = some u) → RunN Try.prog (builtin .append #[22, 22] 22 cs [.slice (some ⟨w.heap.size, 0, none⟩) 0 0, .slice (some ad) len c].toArray) (w.alloc (.cells #[] 3)) K := fun ad len c hl hc => by
    subst hl
    refine RunN.append w.heap.size 3 i0 (.int .i64 0) 1 8 Try.underlying22 hi hz0 hz1 hz2 rfl (by decide) _ 0 [] hown ad kl.length c (kl.map (Value.int .i64)) (by simp) hc (fun u hu => by obtain ⟨z, _, rfl⟩ := List.mem_map.1 hu; rfl)
      (by unfold maxLen; omega) (by omega) (by simp) (fun v' w' h1 h2 _ => ?_)
    refine fin v' w' (by simpa using h1) h2
  rcases hv with ⟨a, c, rfl, rfl⟩ | ⟨kb, ko, c, rfl, h2, h3, h3', h4, h5⟩
  · cases a with
    | none =>
      refine ⟨_, _, append_nil_any 22 22 3 i0 Try.underlying22 hi _ cs c _, ?_⟩
      exact k _ _ (ints_owns (zs := []) (by simpa using hown)) ((Keeps.refl _ _).alloc _)
    | some ad => exact one ad 0 c rfl (fun j u hu => by simp at hu)
  · refine one ⟨kb, ko, none⟩ kl.length c rfl fun j u hu => ?_
    rw [add_none]
    simp only [List.getElem?_map, Option.map_eq_some_iff] at hu
    obtain ⟨z, hz, rfl⟩ := hu
    obtain ⟨hj, hz⟩ := List.getElem?_eq_some_iff.1 hz
    have := h5 j hj
    rw [show kl.getD j 0 = z from by simp [List.getD_eq_getElem?_getD, List.getElem?_eq_getElem hj, hz]] at this
    exact cell_alloc this _
set_option maxHeartbeats 4000000 in
theorem r_arm (n : Int) (hn : n ≤ 9223372036854775807) (kv : Value) (kl : List Int) (hk : kl.length ≤ 1000000000000) (hv : Ks w b bf kv kl) (h : RefAt w b bf cap D) :
    Calls Try.prog 44 #[.pointer (some ⟨b, 0, none⟩), .int .i64 n, kv] w fun e w' => e = .returned (.tuple #[]) ∧ RefAt w' b bf cap (arm D n kl) ∧ Keeps w w' (two_ b bf) := by
  obtain ⟨⟨va, vc, hvv⟩, hlen⟩ := hv.form
  subst hvv
  obtain ⟨A, R, h⟩ := h
  refine calls_of_vc (args := [.pointer (some ⟨b, 0, none⟩), .int .i64 n, .slice va kl.length vc]) Try.func44 rfl (Nat.le_of_ble_eq_true rfl) ?_; refine Sat.go hmix ?_; conv => whnf
  refine Store.one (by rfl) ⟨rfl, by simp, by simp⟩ h.armed (h.fz _) ?_
  (first | refine Then.go hmix ?_ | refine Sat.go hmix ?_ | refine ResK.go ?_ | skip); conv => whnf
  have h1 := h.setArmed (max n 0) (by omega)
  have k1 := two_set w b bf (0 + 3) (.int .i64 (max n 0))
  have hv1 := hv.keep k1
  generalize w.setCell ⟨b, 0 + 3, none⟩ (.int .i64 (max n 0)) = w1 at *
  refine RunV.of (build_zero w1) ?_
  (first | refine Then.go hmix ?_ | refine Sat.go hmix ?_ | refine ResK.go ?_ | skip); conv => whnf
  refine append_ints (b := b) (bf := bf) _ kl w1 hv1 hk (fun v' w2 hi k2 => ?_)
  obtain ⟨sa, sl, sc, rfl⟩ := ints_form hi
  (first | refine Then.go hmix ?_ | refine Sat.go hmix ?_ | refine ResK.go ?_ | skip); conv => whnf
  have h2 := h1.keep0 k2
  obtain ⟨v0, c0, _⟩ := h2.keep
  (repeat ((first | refine Num.i64 (by omega) (by omega) ?_ | refine Num.i32 (by omega) (by omega) ?_ | refine Num.u8 (by omega) (by omega) ?_ | refine Br.tt ?_ | refine Br.ff ?_ | refine Br.not_yes ?_ | refine Br.dec_yes (by omega) ?_ | refine Br.dec_no (by omega) ?_ | refine Br.beq_yes (by omega) ?_ | refine Br.beq_no (by omega) ?_ | refine Br.bne_yes (by omega) ?_ | refine Br.bne_no (by omega) ?_ | refine Draw.text (by decide +kernel) ?_ | refine Idx.nat (by omega) ?_ | refine Idx.int (by omega) (by omega) ?_ | refine Cut.to (by omega) ?_ | refine Cut.from (by omega) (by omega) ?_ | refine Cut.both (by omega) (by omega) ?_ | refine Br.dec_yes (by with_reducible assumption) ?_ | refine Br.dec_no (by with_reducible assumption) ?_ | refine Br.yes (by with_reducible assumption) ?_ | refine Br.no (by with_reducible assumption) ?_ | refine Load.one (by rfl) (by with_reducible assumption) ?_ | refine (?_ : Sat _ _ _ _ _ _ _)); (first | refine Then.go hmix ?_ | refine Sat.go hmix ?_ | skip); conv => whnf))
  refine Store.one (by rfl) ⟨rfl, by simp, by simp⟩ c0 (h2.fz _) ?_
  (first | refine Then.go hmix ?_ | refine Sat.go hmix ?_ | refine ResK.go ?_ | skip); conv => whnf
  have h3 := h2.setKeep _ kl hi
  exact ⟨rfl, ⟨A, R, h3⟩, (k1.trans0 k2).trans' (two_set _ _ _ _ _)⟩
theorem made_files : madeCells (Value.agg #[.string ⟨#[]⟩, .string ⟨#[]⟩]).cells 16 = (List.replicate 16 (Value.string ⟨#[]⟩)).toArray := by
  simp [madeCells, Value.cells, Array.range, Array.ofFn_succ]
theorem build_new (a : Option Addr) (w : World) : (Instr.build 62 [(0, .slice a 8 8)].toArray).run Try.prog w = .ok (.agg #[.slice a 8 8, .int .i64 0, .bool false, .int .i64 0, .slice none 0 0]) w := by
  simp [Instr.build, Instr.fill, go_sem, Try.runUnderlying62]
theorem r_new (w : World) : Calls Try.prog 26 #[] w fun e w' => e = .returned (.pointer (some ⟨w.heap.size + 1, 0, none⟩)) ∧ RefAt w' (w.heap.size + 1) w.heap.size 8 Dk.new ∧ Keeps w w' none_ := by
  have hm := run_make (P := Try.prog) w 60 64 Try.t64 (.agg #[.string ⟨#[]⟩, .string ⟨#[]⟩]) Try.underlying60 (by kernel_rfl) (by kernel_rfl) .i64 .i64 8 8 (by omega) (by omega) (by decide) (by omega)
  have hsz : Try.t64.size = 2 := by kernel_rfl
  rw [hsz, show (8 : Int).toNat * 2 = 16 from rfl, made_files] at hm
  refine calls_of_vc (args := []) Try.func26 rfl (Nat.le_of_ble_eq_true rfl) ?_; refine Sat.go hmix ?_; conv => whnf
  refine RunV.of hm ?_
  (first | refine Then.go hmix ?_ | refine Sat.go hmix ?_ | refine ResK.go ?_ | skip); conv => whnf
  refine RunV.of (build_new _ _) ?_
  (first | refine Then.go hmix ?_ | refine Sat.go hmix ?_ | refine ResK.go ?_ | skip); conv => whnf
  refine ⟨by simp, ⟨fun _ => ⟨#[]⟩, fun _ => ⟨#[]⟩, ?_⟩, ((Keeps.refl _ _).alloc _).alloc _⟩
  have hF : (w.alloc (.cells (List.replicate 16 (Value.string ⟨#[]⟩)).toArray 64)).heap.size = w.heap.size + 1 := by simp
  have hc : ∀ i, i < 16 → ((w.alloc (.cells (List.replicate 16 (Value.string ⟨#[]⟩)).toArray 64)).alloc (.cells #[.slice (some ⟨w.heap.size, 0, none⟩) 8 8, .int .i64 0, .bool false, .int .i64 0, .slice none 0 0] 62)).cell? ⟨w.heap.size, i, none⟩ = some (.string ⟨#[]⟩) := fun i hi => by
    refine cell_alloc ?_ _
    rw [World.cell?_alloc_new, List.getElem?_toArray, List.getElem?_replicate, if_pos hi]
  have hX : At ((w.alloc (.cells (List.replicate 16 (Value.string ⟨#[]⟩)).toArray 64)).alloc (.cells #[.slice (some ⟨w.heap.size, 0, none⟩) 8 8, .int .i64 0, .bool false, .int .i64 0, .slice none 0 0] 62)) (w.heap.size + 1) 0 [.slice (some ⟨w.heap.size, 0, none⟩) 8 8, .int .i64 0, .bool false, .int .i64 0, .slice none 0 0] := by
    have := at_cells (heap_alloc_new (w.alloc (.cells (List.replicate 16 (Value.string ⟨#[]⟩)).toArray 64)) (.cells #[.slice (some ⟨w.heap.size, 0, none⟩) 8 8, .int .i64 0, .bool false, .int .i64 0, .slice none 0 0] 62))
    rw [hF] at this; exact this
  have hs1 : ((w.alloc (.cells (List.replicate 16 (Value.string ⟨#[]⟩)).toArray 64)).alloc (.cells #[.slice (some ⟨w.heap.size, 0, none⟩) 8 8, .int .i64 0, .bool false, .int .i64 0, .slice none 0 0] 62)).shape? (w.heap.size + 1) = some (62, 5) := by
    rw [← hF, shape_new]; rfl
  have hs2 : ((w.alloc (.cells (List.replicate 16 (Value.string ⟨#[]⟩)).toArray 64)).alloc (.cells #[.slice (some ⟨w.heap.size, 0, none⟩) 8 8, .int .i64 0, .bool false, .int .i64 0, .slice none 0 0] 62)).shape? w.heap.size = some (64, 16) := by
    refine shape_alloc ?_ _
    rw [shape_new]; simp
  have hf1 : ∀ i, ((w.alloc (.cells (List.replicate 16 (Value.string ⟨#[]⟩)).toArray 64)).alloc (.cells #[.slice (some ⟨w.heap.size, 0, none⟩) 8 8, .int .i64 0, .bool false, .int .i64 0, .slice none 0 0] 62)).frozen? ⟨w.heap.size + 1, i, none⟩ = false := fun i => by
    rw [← hF]; exact World.frozen?_alloc_new _ _ _ _
  have hf2 : ∀ i, ((w.alloc (.cells (List.replicate 16 (Value.string ⟨#[]⟩)).toArray 64)).alloc (.cells #[.slice (some ⟨w.heap.size, 0, none⟩) 8 8, .int .i64 0, .bool false, .int .i64 0, .slice none 0 0] 62)).frozen? ⟨w.heap.size, i, none⟩ = false := fun i => by
    rw [World.frozen?_alloc_old (h := by simp)]; exact World.frozen?_alloc_new _ _ _ _
  exact ⟨hs1, hf1, ⟨16, hs2⟩, hf2, hX 0 _ rfl, fun i hi => hc _ (by omega), fun i hi => hc _ (by omega), hX 1 _ rfl, hX 2 _ rfl, hX 3 _ rfl, ⟨_, hX 4 _ rfl, .inl ⟨rfl, rfl⟩⟩,
    fun i hi => ⟨rfl, rfl⟩, ⟨fun i hi => ⟨Nat.le_refl _, Nat.zero_le _⟩, by decide⟩⟩
set_option maxHeartbeats 4000000 in
theorem r_twin (x : ActD) (h : RefAt w b bf cap D) (hF : -9223372036854775808 ≤ x.Do ∧ x.Do ≤ 9223372036854775807) (hN : -9223372036854775808 ≤ x.N ∧ x.N ≤ 9223372036854775807) (hS : x.S.size ≤ 9223372036837998591) (hv : Ks w b bf x.kv x.kl) (hkl : x.kl.length ≤ 1000000000000) :
    Calls Try.prog 28 #[.pointer (some ⟨b, 0, none⟩), .agg #[.int .i64 x.Do, .int .i64 x.F, .int .i64 x.G, .int .i64 x.N, .string x.S, x.kv]] w fun e w' =>
      e = .returned (.tuple #[.string (doA D x).1.1, .int .i64 (doA D x).1.2]) ∧ RefAt w' b bf cap (doA D x).2 ∧ Keeps w w' (two_ b bf) := by
  have cell : At (w.alloc (.cells #[.int .i64 x.Do, .int .i64 x.F, .int .i64 x.G, .int .i64 x.N, .string x.S, x.kv] 41)) w.heap.size 0 (cellsA x) := at_cells (heap_alloc_new _ _)
  have c0 := cell 0 _ rfl; have c1 := cell 1 _ rfl; have c2 := cell 2 _ rfl; have c3 := cell 3 _ rfl; have c4 := cell 4 _ rfl; have c5 := cell 5 _ rfl
  have kA := (Keeps.refl w none_).alloc (.cells #[.int .i64 x.Do, .int .i64 x.F, .int .i64 x.G, .int .i64 x.N, .string x.S, x.kv] 41)
  have hd := h.keep0 kA
  have hp : 0 ≤ pickI x.Do ∧ pickI x.Do < 11 := by unfold pickI; omega
  refine calls_of_vc (args := [.pointer (some ⟨b, 0, none⟩), .agg #[.int .i64 x.Do, .int .i64 x.F, .int .i64 x.G, .int .i64 x.N, .string x.S, x.kv]]) Try.func28 rfl (Nat.le_of_ble_eq_true rfl) ?_; refine Sat.go hmix ?_; conv => whnf
  (try ((refine Load.one (by rfl) (by first | exact c0) ?_); (first | refine Then.go hmix ?_ | refine Sat.go hmix ?_ | refine ResK.go ?_ | skip); conv => whnf))
  refine CallS.of (Try.call23 _ _) (c_pick x.Do _ hF) ?_
  rintro e w' ⟨rfl, rfl⟩
  refine ⟨_, rfl, ?_⟩; (first | refine Then.go hmix ?_ | refine Sat.go hmix ?_ | refine ResK.go ?_ | skip); conv => whnf
  unfold doA
  generalize pickI x.Do = p at *
  have fin : ∀ {w'} (D' : St), RefAt w' b bf cap D' → Keeps (w.alloc (.cells #[.int .i64 x.Do, .int .i64 x.F, .int .i64 x.G, .int .i64 x.N, .string x.S, x.kv] 41)) w' (two_ b bf) → Keeps w w' (two_ b bf) := fun D' _ k => kA.of_none.trans' k
  have hvv := hv.keep kA.of_none
  generalize hw1 : w.alloc (.cells #[.int .i64 x.Do, .int .i64 x.F, .int .i64 x.G, .int .i64 x.N, .string x.S, x.kv] 41) = w1 at *
  by_cases p0 : p = 0 ∨ p = 1
  · rw [if_pos p0]
    rcases p0 with rfl | rfl
    · (repeat ((first | refine Num.i64 (by omega) (by omega) ?_ | refine Num.i32 (by omega) (by omega) ?_ | refine Num.u8 (by omega) (by omega) ?_ | refine Br.tt ?_ | refine Br.ff ?_ | refine Br.not_yes ?_ | refine Br.dec_yes (by omega) ?_ | refine Br.dec_no (by omega) ?_ | refine Br.beq_yes (by omega) ?_ | refine Br.beq_no (by omega) ?_ | refine Br.bne_yes (by omega) ?_ | refine Br.bne_no (by omega) ?_ | refine Draw.text (by decide +kernel) ?_ | refine Idx.nat (by omega) ?_ | refine Idx.int (by omega) (by omega) ?_ | refine Cut.to (by omega) ?_ | refine Cut.from (by omega) (by omega) ?_ | refine Cut.both (by omega) (by omega) ?_ | refine Br.dec_yes (by with_reducible assumption) ?_ | refine Br.dec_no (by with_reducible assumption) ?_ | refine Br.yes (by with_reducible assumption) ?_ | refine Br.no (by with_reducible assumption) ?_ | refine Load.one (by rfl) (by with_reducible assumption) ?_ | refine (?_ : Sat _ _ _ _ _ _ _)); (first | refine Then.go hmix ?_ | refine Sat.go hmix ?_ | skip); conv => whnf))
      refine CallS.of (Try.call38 _ _) (r_append x.F x.S hS hd) ?_
      rintro e w' ⟨rfl, h1, h2⟩
      refine ⟨_, rfl, ?_⟩; (first | refine Then.go hmix ?_ | refine Sat.go hmix ?_ | refine ResK.go ?_ | skip); conv => whnf
      exact ⟨rfl, h1, fin _ h1 h2⟩
    · (repeat ((first | refine Num.i64 (by omega) (by omega) ?_ | refine Num.i32 (by omega) (by omega) ?_ | refine Num.u8 (by omega) (by omega) ?_ | refine Br.tt ?_ | refine Br.ff ?_ | refine Br.not_yes ?_ | refine Br.dec_yes (by omega) ?_ | refine Br.dec_no (by omega) ?_ | refine Br.beq_yes (by omega) ?_ | refine Br.beq_no (by omega) ?_ | refine Br.bne_yes (by omega) ?_ | refine Br.bne_no (by omega) ?_ | refine Draw.text (by decide +kernel) ?_ | refine Idx.nat (by omega) ?_ | refine Idx.int (by omega) (by omega) ?_ | refine Cut.to (by omega) ?_ | refine Cut.from (by omega) (by omega) ?_ | refine Cut.both (by omega) (by omega) ?_ | refine Br.dec_yes (by with_reducible assumption) ?_ | refine Br.dec_no (by with_reducible assumption) ?_ | refine Br.yes (by with_reducible assumption) ?_ | refine Br.no (by with_reducible assumption) ?_ | refine Load.one (by rfl) (by with_reducible assumption) ?_ | refine (?_ : Sat _ _ _ _ _ _ _)); (first | refine Then.go hmix ?_ | refine Sat.go hmix ?_ | skip); conv => whnf))
      refine CallS.of (Try.call38 _ _) (r_append x.F x.S hS hd) ?_
      rintro e w' ⟨rfl, h1, h2⟩
      refine ⟨_, rfl, ?_⟩; (first | refine Then.go hmix ?_ | refine Sat.go hmix ?_ | refine ResK.go ?_ | skip); conv => whnf
      exact ⟨rfl, h1, fin _ h1 h2⟩
  rw [if_neg p0]
  by_cases p2 : p = 2
  · rw [if_pos p2]
    (repeat ((first | refine Num.i64 (by omega) (by omega) ?_ | refine Num.i32 (by omega) (by omega) ?_ | refine Num.u8 (by omega) (by omega) ?_ | refine Br.tt ?_ | refine Br.ff ?_ | refine Br.not_yes ?_ | refine Br.dec_yes (by omega) ?_ | refine Br.dec_no (by omega) ?_ | refine Br.beq_yes (by omega) ?_ | refine Br.beq_no (by omega) ?_ | refine Br.bne_yes (by omega) ?_ | refine Br.bne_no (by omega) ?_ | refine Draw.text (by decide +kernel) ?_ | refine Idx.nat (by omega) ?_ | refine Idx.int (by omega) (by omega) ?_ | refine Cut.to (by omega) ?_ | refine Cut.from (by omega) (by omega) ?_ | refine Cut.both (by omega) (by omega) ?_ | refine Br.dec_yes (by with_reducible assumption) ?_ | refine Br.dec_no (by with_reducible assumption) ?_ | refine Br.yes (by with_reducible assumption) ?_ | refine Br.no (by with_reducible assumption) ?_ | refine Load.one (by rfl) (by with_reducible assumption) ?_ | refine (?_ : Sat _ _ _ _ _ _ _)); (first | refine Then.go hmix ?_ | refine Sat.go hmix ?_ | skip); conv => whnf))
    refine CallS.of (Try.call39 _ _) (r_flush x.F hd) ?_
    rintro e w' ⟨rfl, h1, h2⟩
    refine ⟨_, rfl, ?_⟩; (first | refine Then.go hmix ?_ | refine Sat.go hmix ?_ | refine ResK.go ?_ | skip); conv => whnf
    exact ⟨rfl, h1, fin _ h1 h2⟩
  rw [if_neg p2]
  by_cases p3 : p = 3
  · rw [if_pos p3]
    (repeat ((first | refine Num.i64 (by omega) (by omega) ?_ | refine Num.i32 (by omega) (by omega) ?_ | refine Num.u8 (by omega) (by omega) ?_ | refine Br.tt ?_ | refine Br.ff ?_ | refine Br.not_yes ?_ | refine Br.dec_yes (by omega) ?_ | refine Br.dec_no (by omega) ?_ | refine Br.beq_yes (by omega) ?_ | refine Br.beq_no (by omega) ?_ | refine Br.bne_yes (by omega) ?_ | refine Br.bne_no (by omega) ?_ | refine Draw.text (by decide +kernel) ?_ | refine Idx.nat (by omega) ?_ | refine Idx.int (by omega) (by omega) ?_ | refine Cut.to (by omega) ?_ | refine Cut.from (by omega) (by omega) ?_ | refine Cut.both (by omega) (by omega) ?_ | refine Br.dec_yes (by with_reducible assumption) ?_ | refine Br.dec_no (by with_reducible assumption) ?_ | refine Br.yes (by with_reducible assumption) ?_ | refine Br.no (by with_reducible assumption) ?_ | refine Load.one (by rfl) (by with_reducible assumption) ?_ | refine (?_ : Sat _ _ _ _ _ _ _)); (first | refine Then.go hmix ?_ | refine Sat.go hmix ?_ | skip); conv => whnf))
    refine CallS.of (Try.call40 _ _) (r_cut x.F x.N hN hd) ?_
    rintro e w' ⟨rfl, h1, h2⟩
    refine ⟨_, rfl, ?_⟩; (first | refine Then.go hmix ?_ | refine Sat.go hmix ?_ | refine ResK.go ?_ | skip); conv => whnf
    exact ⟨rfl, h1, fin _ h1 h2⟩
  rw [if_neg p3]
  by_cases p4 : p = 4
  · rw [if_pos p4]
    (repeat ((first | refine Num.i64 (by omega) (by omega) ?_ | refine Num.i32 (by omega) (by omega) ?_ | refine Num.u8 (by omega) (by omega) ?_ | refine Br.tt ?_ | refine Br.ff ?_ | refine Br.not_yes ?_ | refine Br.dec_yes (by omega) ?_ | refine Br.dec_no (by omega) ?_ | refine Br.beq_yes (by omega) ?_ | refine Br.beq_no (by omega) ?_ | refine Br.bne_yes (by omega) ?_ | refine Br.bne_no (by omega) ?_ | refine Draw.text (by decide +kernel) ?_ | refine Idx.nat (by omega) ?_ | refine Idx.int (by omega) (by omega) ?_ | refine Cut.to (by omega) ?_ | refine Cut.from (by omega) (by omega) ?_ | refine Cut.both (by omega) (by omega) ?_ | refine Br.dec_yes (by with_reducible assumption) ?_ | refine Br.dec_no (by with_reducible assumption) ?_ | refine Br.yes (by with_reducible assumption) ?_ | refine Br.no (by with_reducible assumption) ?_ | refine Load.one (by rfl) (by with_reducible assumption) ?_ | refine (?_ : Sat _ _ _ _ _ _ _)); (first | refine Then.go hmix ?_ | refine Sat.go hmix ?_ | skip); conv => whnf))
    refine CallS.of (Try.call41 _ _) (r_turn x.F x.G hd) ?_
    rintro e w' ⟨rfl, h1, h2⟩
    refine ⟨_, rfl, ?_⟩; (first | refine Then.go hmix ?_ | refine Sat.go hmix ?_ | refine ResK.go ?_ | skip); conv => whnf
    exact ⟨rfl, h1, fin _ h1 h2⟩
  rw [if_neg p4]
  by_cases p5 : p = 5
  · rw [if_pos p5]
    obtain ⟨⟨ka, kc, hkv⟩, _⟩ := hvv.form
    rw [hkv] at c5 hvv
    (repeat ((first | refine Num.i64 (by omega) (by omega) ?_ | refine Num.i32 (by omega) (by omega) ?_ | refine Num.u8 (by omega) (by omega) ?_ | refine Br.tt ?_ | refine Br.ff ?_ | refine Br.not_yes ?_ | refine Br.dec_yes (by omega) ?_ | refine Br.dec_no (by omega) ?_ | refine Br.beq_yes (by omega) ?_ | refine Br.beq_no (by omega) ?_ | refine Br.bne_yes (by omega) ?_ | refine Br.bne_no (by omega) ?_ | refine Draw.text (by decide +kernel) ?_ | refine Idx.nat (by omega) ?_ | refine Idx.int (by omega) (by omega) ?_ | refine Cut.to (by omega) ?_ | refine Cut.from (by omega) (by omega) ?_ | refine Cut.both (by omega) (by omega) ?_ | refine Br.dec_yes (by with_reducible assumption) ?_ | refine Br.dec_no (by with_reducible assumption) ?_ | refine Br.yes (by with_reducible assumption) ?_ | refine Br.no (by with_reducible assumption) ?_ | refine Load.one (by rfl) (by with_reducible assumption) ?_ | refine (?_ : Sat _ _ _ _ _ _ _)); (first | refine Then.go hmix ?_ | refine Sat.go hmix ?_ | skip); conv => whnf))
    refine CallS.of (Try.call42 _ _) (r_crash _ x.kl hvv hd) ?_
    rintro e w' ⟨rfl, h1, h2⟩
    refine ⟨_, rfl, ?_⟩; (first | refine Then.go hmix ?_ | refine Sat.go hmix ?_ | refine ResK.go ?_ | skip); conv => whnf
    exact ⟨rfl, h1, fin _ h1 h2⟩
  rw [if_neg p5]
  by_cases p6 : p = 6
  · rw [if_pos p6]
    (repeat ((first | refine Num.i64 (by omega) (by omega) ?_ | refine Num.i32 (by omega) (by omega) ?_ | refine Num.u8 (by omega) (by omega) ?_ | refine Br.tt ?_ | refine Br.ff ?_ | refine Br.not_yes ?_ | refine Br.dec_yes (by omega) ?_ | refine Br.dec_no (by omega) ?_ | refine Br.beq_yes (by omega) ?_ | refine Br.beq_no (by omega) ?_ | refine Br.bne_yes (by omega) ?_ | refine Br.bne_no (by omega) ?_ | refine Draw.text (by decide +kernel) ?_ | refine Idx.nat (by omega) ?_ | refine Idx.int (by omega) (by omega) ?_ | refine Cut.to (by omega) ?_ | refine Cut.from (by omega) (by omega) ?_ | refine Cut.both (by omega) (by omega) ?_ | refine Br.dec_yes (by with_reducible assumption) ?_ | refine Br.dec_no (by with_reducible assumption) ?_ | refine Br.yes (by with_reducible assumption) ?_ | refine Br.no (by with_reducible assumption) ?_ | refine Load.one (by rfl) (by with_reducible assumption) ?_ | refine (?_ : Sat _ _ _ _ _ _ _)); (first | refine Then.go hmix ?_ | refine Sat.go hmix ?_ | skip); conv => whnf))
    refine CallS.of (Try.call43 _ _) (r_lose x.N hN.2 hd) ?_
    rintro e w' ⟨rfl, h1, h2⟩
    refine ⟨_, rfl, ?_⟩; (first | refine Then.go hmix ?_ | refine Sat.go hmix ?_ | refine ResK.go ?_ | skip); conv => whnf
    exact ⟨rfl, h1, fin _ h1 h2⟩
  rw [if_neg p6]
  by_cases p7 : p = 7
  · rw [if_pos p7]
    (repeat ((first | refine Num.i64 (by omega) (by omega) ?_ | refine Num.i32 (by omega) (by omega) ?_ | refine Num.u8 (by omega) (by omega) ?_ | refine Br.tt ?_ | refine Br.ff ?_ | refine Br.not_yes ?_ | refine Br.dec_yes (by omega) ?_ | refine Br.dec_no (by omega) ?_ | refine Br.beq_yes (by omega) ?_ | refine Br.beq_no (by omega) ?_ | refine Br.bne_yes (by omega) ?_ | refine Br.bne_no (by omega) ?_ | refine Draw.text (by decide +kernel) ?_ | refine Idx.nat (by omega) ?_ | refine Idx.int (by omega) (by omega) ?_ | refine Cut.to (by omega) ?_ | refine Cut.from (by omega) (by omega) ?_ | refine Cut.both (by omega) (by omega) ?_ | refine Br.dec_yes (by with_reducible assumption) ?_ | refine Br.dec_no (by with_reducible assumption) ?_ | refine Br.yes (by with_reducible assumption) ?_ | refine Br.no (by with_reducible assumption) ?_ | refine Load.one (by rfl) (by with_reducible assumption) ?_ | refine (?_ : Sat _ _ _ _ _ _ _)); (first | refine Then.go hmix ?_ | refine Sat.go hmix ?_ | skip); conv => whnf))
    refine CallS.of (Try.call31 _ _) (r_start hd) ?_
    rintro e w' ⟨rfl, h1, h2⟩
    refine ⟨_, rfl, ?_⟩; (first | refine Then.go hmix ?_ | refine Sat.go hmix ?_ | refine ResK.go ?_ | skip); conv => whnf
    exact ⟨rfl, h1, fin _ h1 h2⟩
  rw [if_neg p7]
  by_cases p8 : p = 8
  · rw [if_pos p8]
    (repeat ((first | refine Num.i64 (by omega) (by omega) ?_ | refine Num.i32 (by omega) (by omega) ?_ | refine Num.u8 (by omega) (by omega) ?_ | refine Br.tt ?_ | refine Br.ff ?_ | refine Br.not_yes ?_ | refine Br.dec_yes (by omega) ?_ | refine Br.dec_no (by omega) ?_ | refine Br.beq_yes (by omega) ?_ | refine Br.beq_no (by omega) ?_ | refine Br.bne_yes (by omega) ?_ | refine Br.bne_no (by omega) ?_ | refine Draw.text (by decide +kernel) ?_ | refine Idx.nat (by omega) ?_ | refine Idx.int (by omega) (by omega) ?_ | refine Cut.to (by omega) ?_ | refine Cut.from (by omega) (by omega) ?_ | refine Cut.both (by omega) (by omega) ?_ | refine Br.dec_yes (by with_reducible assumption) ?_ | refine Br.dec_no (by with_reducible assumption) ?_ | refine Br.yes (by with_reducible assumption) ?_ | refine Br.no (by with_reducible assumption) ?_ | refine Load.one (by rfl) (by with_reducible assumption) ?_ | refine (?_ : Sat _ _ _ _ _ _ _)); (first | refine Then.go hmix ?_ | refine Sat.go hmix ?_ | skip); conv => whnf))
    refine CallS.of (Try.call32 _ _) (r_read x.F hd) ?_
    rintro e w' ⟨rfl, h2⟩
    refine ⟨_, rfl, ?_⟩; (first | refine Then.go hmix ?_ | refine Sat.go hmix ?_ | refine ResK.go ?_ | skip); conv => whnf
    exact ⟨rfl, hd.keep0 h2, fin _ (hd.keep0 h2) h2.of_none⟩
  rw [if_neg p8]
  by_cases p10 : p = 10
  · rw [if_pos p10]
    obtain ⟨⟨ka, kc, hkv⟩, _⟩ := hvv.form
    rw [hkv] at c5 hvv
    (repeat ((first | refine Num.i64 (by omega) (by omega) ?_ | refine Num.i32 (by omega) (by omega) ?_ | refine Num.u8 (by omega) (by omega) ?_ | refine Br.tt ?_ | refine Br.ff ?_ | refine Br.not_yes ?_ | refine Br.dec_yes (by omega) ?_ | refine Br.dec_no (by omega) ?_ | refine Br.beq_yes (by omega) ?_ | refine Br.beq_no (by omega) ?_ | refine Br.bne_yes (by omega) ?_ | refine Br.bne_no (by omega) ?_ | refine Draw.text (by decide +kernel) ?_ | refine Idx.nat (by omega) ?_ | refine Idx.int (by omega) (by omega) ?_ | refine Cut.to (by omega) ?_ | refine Cut.from (by omega) (by omega) ?_ | refine Cut.both (by omega) (by omega) ?_ | refine Br.dec_yes (by with_reducible assumption) ?_ | refine Br.dec_no (by with_reducible assumption) ?_ | refine Br.yes (by with_reducible assumption) ?_ | refine Br.no (by with_reducible assumption) ?_ | refine Load.one (by rfl) (by with_reducible assumption) ?_ | refine (?_ : Sat _ _ _ _ _ _ _)); (first | refine Then.go hmix ?_ | refine Sat.go hmix ?_ | skip); conv => whnf))
    refine CallS.of (Try.call44 _ _) (r_arm x.N hN.2 _ x.kl hkl hvv hd) ?_
    rintro e w' ⟨rfl, h1, h2⟩
    refine ⟨_, rfl, ?_⟩; (first | refine Then.go hmix ?_ | refine Sat.go hmix ?_ | refine ResK.go ?_ | skip); conv => whnf
    exact ⟨rfl, h1, fin _ h1 h2⟩
  rw [if_neg p10]
  (repeat ((first | refine Num.i64 (by omega) (by omega) ?_ | refine Num.i32 (by omega) (by omega) ?_ | refine Num.u8 (by omega) (by omega) ?_ | refine Br.tt ?_ | refine Br.ff ?_ | refine Br.not_yes ?_ | refine Br.dec_yes (by omega) ?_ | refine Br.dec_no (by omega) ?_ | refine Br.beq_yes (by omega) ?_ | refine Br.beq_no (by omega) ?_ | refine Br.bne_yes (by omega) ?_ | refine Br.bne_no (by omega) ?_ | refine Draw.text (by decide +kernel) ?_ | refine Idx.nat (by omega) ?_ | refine Idx.int (by omega) (by omega) ?_ | refine Cut.to (by omega) ?_ | refine Cut.from (by omega) (by omega) ?_ | refine Cut.both (by omega) (by omega) ?_ | refine Br.dec_yes (by with_reducible assumption) ?_ | refine Br.dec_no (by with_reducible assumption) ?_ | refine Br.yes (by with_reducible assumption) ?_ | refine Br.no (by with_reducible assumption) ?_ | refine Load.one (by rfl) (by with_reducible assumption) ?_ | refine (?_ : Sat _ _ _ _ _ _ _)); (first | refine Then.go hmix ?_ | refine Sat.go hmix ?_ | skip); conv => whnf))
  exact ⟨rfl, hd, fin _ hd (Keeps.refl _ _)⟩
end
end Go.Proofs.Ytcnkbpghafhceaa
