/- Helper text of this claim: BownW: lemmas and contracts that the proved statement rests on; no conditions of its own. -/
import Derived.Test.YtcnkbpghafhceaaBastsW
import Derived.Test.YtcnkbpghafhceaaBkD
namespace Go.Proofs.Ytcnkbpghafhceaa
open Go.RowKit Go.Pw Go.Pw.Dk Go.Vc
set_option linter.unusedVariables false
set_option maxRecDepth 100000
theorem build_two (x y : Int) (w : World) : (Instr.buildSlice 22 2 [(0, .int .i64 x), (1, .int .i64 y)].toArray).run Try.prog w = .ok (.slice (some ⟨w.heap.size, 0, none⟩) 2 2) (w.alloc (.cells #[.int .i64 x, .int .i64 y] 3)) := by
  simp [Instr.buildSlice, Instr.fill, go_sem, Try.runUnderlying22]
theorem ints_twoN (b : Nat) (w : World) (x y : Int) (hb : b < w.heap.size) : IntsNe b (w.alloc (.cells #[.int .i64 x, .int .i64 y] 3)) (.slice (some ⟨w.heap.size, 0, none⟩) 2 2) [x, y] := by
  refine .inr ⟨w.heap.size, 0, 2, rfl, by simp, by omega, by simp, fun i hi => ?_⟩
  rw [World.cell?_alloc_new]
  match i, hi with
  | 0, _ => rfl
  | 1, _ => rfl
theorem c_downE {b : Nat} {D : St} {x : Bool} (w : World) (E : D.down = x) (h : DiskAt w b D) :
    Calls Try.prog 21 #[.pointer (some ⟨b, 0, none⟩)] w fun e w' => e = .returned (.bool x) ∧ w = w' := by
  subst E; exact c_down b D w h
theorem DiskAt.otherD {w w' : World} {b b' : Nat} {D : St} (h : DiskAt w b D) (k : Keeps w w' (one_ b')) (hne : b ≠ b') (hs : w.shape? b' = some (55, 20)) : DiskAt w' b D :=
  h.kept k (fun e => hne e) (fun j n hj e => by cases e; rw [hs] at hj; cases hj)
set_option maxHeartbeats 8000000 in
theorem down_walk (a : Option Addr) (len cap : Nat) (xs : List ActD) (y : ActD) (w : World) (ha : Acts w a len xs) (hy : OkA w y) :
    Calls Try.prog 8 #[.slice a len cap, .agg #[.int .i64 y.Do, .int .i64 y.F, .int .i64 y.G, .int .i64 y.N, .string y.S, y.kv]] w fun e w' => e = .returned (.bool true) ∧ Keeps w w' none_ := by
  have hmx : len ≤ 140737488351232 := ha.hmax
  obtain ⟨hkva, hkvc, hykv⟩ := kv_slice hy.k
  refine calls_of_vc (args := [.slice a len cap, .agg #[.int .i64 y.Do, .int .i64 y.F, .int .i64 y.G, .int .i64 y.N, .string y.S, y.kv]]) Try.func8 rfl (Nat.le_of_ble_eq_true rfl) ?_; refine Sat.go hmix ?_; conv => whnf
  have hA0 : At (w.alloc (.cells #[.int .i64 y.Do, .int .i64 y.F, .int .i64 y.G, .int .i64 y.N, .string y.S, y.kv] 41)) w.heap.size 0 (cellsA y) := at_cells (heap_alloc_new _ _)
  have hK0 := (Keeps.refl w none_).alloc (.cells #[.int .i64 y.Do, .int .i64 y.F, .int .i64 y.G, .int .i64 y.N, .string y.S, y.kv] 41)
  have hsz0 : (w.alloc (.cells #[.int .i64 y.Do, .int .i64 y.F, .int .i64 y.G, .int .i64 y.N, .string y.S, y.kv] 41)).heap.size = w.heap.size + 1 := by simp
  generalize w.alloc (.cells #[.int .i64 y.Do, .int .i64 y.F, .int .i64 y.G, .int .i64 y.N, .string y.S, y.kv] 41) = w0 at *
  have hAt : ∀ {W' : World}, Keeps w0 W' none_ → At W' w.heap.size 0 (cellsA y) := fun k i v hi => by rw [k.cell (by show w.heap.size < w0.heap.size; omega) id]; exact hA0 i v hi
  refine CallS.of (Try.call9 _ _) (c_small w0) ?_
  rintro e w1 ⟨rfl, k1⟩
  refine ⟨_, rfl, ?_⟩; (first | refine Then.go hmix ?_ | refine Sat.go hmix ?_ | refine ResK.go ?_ | skip); conv => whnf
  refine CallS.of (Try.call10 _ _) (c_new w1) ?_
  rintro e w2 ⟨rfl, hd, k2⟩
  refine ⟨_, rfl, ?_⟩; (first | refine Then.go hmix ?_ | refine Sat.go hmix ?_ | refine ResK.go ?_ | skip); conv => whnf
  have k12 := k1.trans' k2
  refine CallS.of (Try.call20 _ _) (c_few w w2 a len cap xs ha (hK0.trans' k12)) ?_
  rintro e w3 ⟨r, rfl, hr, k3⟩
  refine ⟨_, rfl, ?_⟩; (first | refine Then.go hmix ?_ | refine Sat.go hmix ?_ | refine ResK.go ?_ | skip); conv => whnf
  have k13 := k12.trans' k3
  have hA3 := hAt k13
  have c4 := hA3 4 _ rfl
  cases r
  · (repeat ((first | refine Num.i64 (by omega) (by omega) ?_ | refine Num.i32 (by omega) (by omega) ?_ | refine Num.u8 (by omega) (by omega) ?_ | refine Br.tt ?_ | refine Br.ff ?_ | refine Br.not_yes ?_ | refine Br.dec_yes (by omega) ?_ | refine Br.dec_no (by omega) ?_ | refine Br.beq_yes (by omega) ?_ | refine Br.beq_no (by omega) ?_ | refine Br.bne_yes (by omega) ?_ | refine Br.bne_no (by omega) ?_ | refine Draw.text (by decide +kernel) ?_ | refine Idx.nat (by omega) ?_ | refine Idx.int (by omega) (by omega) ?_ | refine Cut.to (by omega) ?_ | refine Cut.from (by omega) (by omega) ?_ | refine Cut.both (by omega) (by omega) ?_ | refine Br.dec_yes (by with_reducible assumption) ?_ | refine Br.dec_no (by with_reducible assumption) ?_ | refine Br.yes (by with_reducible assumption) ?_ | refine Br.no (by with_reducible assumption) ?_ | refine Load.one (by rfl) (by with_reducible assumption) ?_ | refine (?_ : Sat _ _ _ _ _ _ _)); (first | refine Then.go hmix ?_ | refine Sat.go hmix ?_ | skip); conv => whnf))
    exact ⟨rfl, hK0.trans' k13⟩
  have hfew := hr rfl
  (repeat ((first | refine Num.i64 (by omega) (by omega) ?_ | refine Num.i32 (by omega) (by omega) ?_ | refine Num.u8 (by omega) (by omega) ?_ | refine Br.tt ?_ | refine Br.ff ?_ | refine Br.not_yes ?_ | refine Br.dec_yes (by omega) ?_ | refine Br.dec_no (by omega) ?_ | refine Br.beq_yes (by omega) ?_ | refine Br.beq_no (by omega) ?_ | refine Br.bne_yes (by omega) ?_ | refine Br.bne_no (by omega) ?_ | refine Draw.text (by decide +kernel) ?_ | refine Idx.nat (by omega) ?_ | refine Idx.int (by omega) (by omega) ?_ | refine Cut.to (by omega) ?_ | refine Cut.from (by omega) (by omega) ?_ | refine Cut.both (by omega) (by omega) ?_ | refine Br.dec_yes (by with_reducible assumption) ?_ | refine Br.dec_no (by with_reducible assumption) ?_ | refine Br.yes (by with_reducible assumption) ?_ | refine Br.no (by with_reducible assumption) ?_ | refine Load.one (by rfl) (by with_reducible assumption) ?_ | refine (?_ : Sat _ _ _ _ _ _ _)); (first | refine Then.go hmix ?_ | refine Sat.go hmix ?_ | skip); conv => whnf))
  (try ((refine Load.one (by rfl) (by first | exact c4) ?_); (first | refine Then.go hmix ?_ | refine Sat.go hmix ?_ | refine ResK.go ?_ | skip); conv => whnf))
  (repeat ((first | refine Num.i64 (by omega) (by omega) ?_ | refine Num.i32 (by omega) (by omega) ?_ | refine Num.u8 (by omega) (by omega) ?_ | refine Br.tt ?_ | refine Br.ff ?_ | refine Br.not_yes ?_ | refine Br.dec_yes (by omega) ?_ | refine Br.dec_no (by omega) ?_ | refine Br.beq_yes (by omega) ?_ | refine Br.beq_no (by omega) ?_ | refine Br.bne_yes (by omega) ?_ | refine Br.bne_no (by omega) ?_ | refine Draw.text (by decide +kernel) ?_ | refine Idx.nat (by omega) ?_ | refine Idx.int (by omega) (by omega) ?_ | refine Cut.to (by omega) ?_ | refine Cut.from (by omega) (by omega) ?_ | refine Cut.both (by omega) (by omega) ?_ | refine Br.dec_yes (by with_reducible assumption) ?_ | refine Br.dec_no (by with_reducible assumption) ?_ | refine Br.yes (by with_reducible assumption) ?_ | refine Br.no (by with_reducible assumption) ?_ | refine Load.one (by rfl) (by with_reducible assumption) ?_ | refine (?_ : Sat _ _ _ _ _ _ _)); (first | refine Then.go hmix ?_ | refine Sat.go hmix ?_ | skip); conv => whnf))
  by_cases hS : 100000 < y.S.size
  · (repeat ((first | refine Num.i64 (by omega) (by omega) ?_ | refine Num.i32 (by omega) (by omega) ?_ | refine Num.u8 (by omega) (by omega) ?_ | refine Br.tt ?_ | refine Br.ff ?_ | refine Br.not_yes ?_ | refine Br.dec_yes (by omega) ?_ | refine Br.dec_no (by omega) ?_ | refine Br.beq_yes (by omega) ?_ | refine Br.beq_no (by omega) ?_ | refine Br.bne_yes (by omega) ?_ | refine Br.bne_no (by omega) ?_ | refine Draw.text (by decide +kernel) ?_ | refine Idx.nat (by omega) ?_ | refine Idx.int (by omega) (by omega) ?_ | refine Cut.to (by omega) ?_ | refine Cut.from (by omega) (by omega) ?_ | refine Cut.both (by omega) (by omega) ?_ | refine Br.dec_yes (by with_reducible assumption) ?_ | refine Br.dec_no (by with_reducible assumption) ?_ | refine Br.yes (by with_reducible assumption) ?_ | refine Br.no (by with_reducible assumption) ?_ | refine Load.one (by rfl) (by with_reducible assumption) ?_ | refine (?_ : Sat _ _ _ _ _ _ _)); (first | refine Then.go hmix ?_ | refine Sat.go hmix ?_ | skip); conv => whnf))
    exact ⟨rfl, hK0.trans' k13⟩
  (repeat ((first | refine Num.i64 (by omega) (by omega) ?_ | refine Num.i32 (by omega) (by omega) ?_ | refine Num.u8 (by omega) (by omega) ?_ | refine Br.tt ?_ | refine Br.ff ?_ | refine Br.not_yes ?_ | refine Br.dec_yes (by omega) ?_ | refine Br.dec_no (by omega) ?_ | refine Br.beq_yes (by omega) ?_ | refine Br.beq_no (by omega) ?_ | refine Br.bne_yes (by omega) ?_ | refine Br.bne_no (by omega) ?_ | refine Draw.text (by decide +kernel) ?_ | refine Idx.nat (by omega) ?_ | refine Idx.int (by omega) (by omega) ?_ | refine Cut.to (by omega) ?_ | refine Cut.from (by omega) (by omega) ?_ | refine Cut.both (by omega) (by omega) ?_ | refine Br.dec_yes (by with_reducible assumption) ?_ | refine Br.dec_no (by with_reducible assumption) ?_ | refine Br.yes (by with_reducible assumption) ?_ | refine Br.no (by with_reducible assumption) ?_ | refine Load.one (by rfl) (by with_reducible assumption) ?_ | refine (?_ : Sat _ _ _ _ _ _ _)); (first | refine Then.go hmix ?_ | refine Sat.go hmix ?_ | skip); conv => whnf))
  have hd3 := hd.keep0 k3
  have hb1 : w.heap.size ≤ w1.heap.size := by have := k1.size; omega
  have hb0 : w0.heap.size ≤ w1.heap.size := k1.size
  have hlt1 := hd3.lt
  refine Loop.intro (ι := Nat × St) (fun i => [(0, .slice a len cap), (3, .pointer (some ⟨w.heap.size, 0, none⟩)), (5, .bool true), (6, .pointer (some ⟨w1.heap.size, 0, none⟩)), (7, .int .i64 i.1)])
    (fun i wr => Keeps w0 wr none_ ∧ i.1 ≤ len ∧ DiskAt wr w1.heap.size i.2) (fun i => len - i.1) (0, Dk.new) ⟨rfl, rfl, rfl, rfl, rfl, trivial⟩ ⟨k13, Nat.zero_le _, hd3⟩ ?_
  rintro ⟨k, D⟩ g wr ⟨hK, hkl, hD⟩
  dsimp only at hkl hD ⊢
  (first | refine Then.go hmix ?_ | refine Sat.go hmix ?_ | refine ResK.go ?_ | skip); conv => whnf
  by_cases h : k < len
  · obtain ⟨lb, lo, rfl, hlb, hat⟩ := ha.at_ k h
    have hx := ha.ok k (by have := ha.hlen; omega)
    have hxf := hfew.2 k (by have := ha.hlen; omega)
    generalize he : xs.getD k default = x at *
    have hatr : At wr lb (lo + k * 6) (cellsA x) := fun i v hi => by rw [(hK0.trans' hK).cell hlb id]; exact hat i v hi
    obtain ⟨kva, kvc, hxkv⟩ := kv_slice hx.k
    (repeat ((first | refine Num.i64 (by omega) (by omega) ?_ | refine Num.i32 (by omega) (by omega) ?_ | refine Num.u8 (by omega) (by omega) ?_ | refine Br.tt ?_ | refine Br.ff ?_ | refine Br.not_yes ?_ | refine Br.dec_yes (by omega) ?_ | refine Br.dec_no (by omega) ?_ | refine Br.beq_yes (by omega) ?_ | refine Br.beq_no (by omega) ?_ | refine Br.bne_yes (by omega) ?_ | refine Br.bne_no (by omega) ?_ | refine Draw.text (by decide +kernel) ?_ | refine Idx.nat (by omega) ?_ | refine Idx.int (by omega) (by omega) ?_ | refine Cut.to (by omega) ?_ | refine Cut.from (by omega) (by omega) ?_ | refine Cut.both (by omega) (by omega) ?_ | refine Br.dec_yes (by with_reducible assumption) ?_ | refine Br.dec_no (by with_reducible assumption) ?_ | refine Br.yes (by with_reducible assumption) ?_ | refine Br.no (by with_reducible assumption) ?_ | refine Load.one (by rfl) (by with_reducible assumption) ?_ | refine (?_ : Sat _ _ _ _ _ _ _)); (first | refine Then.go hmix ?_ | refine Sat.go hmix ?_ | skip); conv => whnf))
    refine Load.agg (cellsA x) (by rfl) (by rfl) (by rfl) hatr ?_
    (first | refine Then.go hmix ?_ | refine Sat.go hmix ?_ | refine ResK.go ?_ | skip); conv => whnf
    refine CallS.of (Try.call22 _ _) (c_do w1.heap.size D x _ hD hx.Do hx.N.2 (by omega) (ints_keep hx.k (hK0.trans' hK) (by omega)) (by omega)) ?_
    rintro e wb ⟨rfl, hD2, kb⟩
    refine ⟨_, rfl, ?_⟩; (first | refine Then.go hmix ?_ | refine Sat.go hmix ?_ | refine ResK.go ?_ | skip); conv => whnf
    (repeat ((first | refine Num.i64 (by omega) (by omega) ?_ | refine Num.i32 (by omega) (by omega) ?_ | refine Num.u8 (by omega) (by omega) ?_ | refine Br.tt ?_ | refine Br.ff ?_ | refine Br.not_yes ?_ | refine Br.dec_yes (by omega) ?_ | refine Br.dec_no (by omega) ?_ | refine Br.beq_yes (by omega) ?_ | refine Br.beq_no (by omega) ?_ | refine Br.bne_yes (by omega) ?_ | refine Br.bne_no (by omega) ?_ | refine Draw.text (by decide +kernel) ?_ | refine Idx.nat (by omega) ?_ | refine Idx.int (by omega) (by omega) ?_ | refine Cut.to (by omega) ?_ | refine Cut.from (by omega) (by omega) ?_ | refine Cut.both (by omega) (by omega) ?_ | refine Br.dec_yes (by with_reducible assumption) ?_ | refine Br.dec_no (by with_reducible assumption) ?_ | refine Br.yes (by with_reducible assumption) ?_ | refine Br.no (by with_reducible assumption) ?_ | refine Load.one (by rfl) (by with_reducible assumption) ?_ | refine (?_ : Sat _ _ _ _ _ _ _)); (first | refine Then.go hmix ?_ | refine Sat.go hmix ?_ | skip); conv => whnf))
    exact ⟨(k + 1, _), ⟨rfl, rfl, rfl, rfl, rfl, trivial⟩, ⟨hK.own kb hb0, h, hD2⟩, by dsimp only; omega⟩
  · (repeat ((first | refine Num.i64 (by omega) (by omega) ?_ | refine Num.i32 (by omega) (by omega) ?_ | refine Num.u8 (by omega) (by omega) ?_ | refine Br.tt ?_ | refine Br.ff ?_ | refine Br.not_yes ?_ | refine Br.dec_yes (by omega) ?_ | refine Br.dec_no (by omega) ?_ | refine Br.beq_yes (by omega) ?_ | refine Br.beq_no (by omega) ?_ | refine Br.bne_yes (by omega) ?_ | refine Br.bne_no (by omega) ?_ | refine Draw.text (by decide +kernel) ?_ | refine Idx.nat (by omega) ?_ | refine Idx.int (by omega) (by omega) ?_ | refine Cut.to (by omega) ?_ | refine Cut.from (by omega) (by omega) ?_ | refine Cut.both (by omega) (by omega) ?_ | refine Br.dec_yes (by with_reducible assumption) ?_ | refine Br.dec_no (by with_reducible assumption) ?_ | refine Br.yes (by with_reducible assumption) ?_ | refine Br.no (by with_reducible assumption) ?_ | refine Load.one (by rfl) (by with_reducible assumption) ?_ | refine (?_ : Sat _ _ _ _ _ _ _)); (first | refine Then.go hmix ?_ | refine Sat.go hmix ?_ | skip); conv => whnf))
    refine CallS.of (Try.call25 _ _) (c_arm w1.heap.size D 0 _ [] _ hD (by omega) (.inl ⟨_, _, rfl, rfl⟩) (by simp)) ?_
    rintro e wa ⟨rfl, hD1, ka1⟩
    refine ⟨_, rfl, ?_⟩; (first | refine Then.go hmix ?_ | refine Sat.go hmix ?_ | refine ResK.go ?_ | skip); conv => whnf
    have hK1 := hK.own ka1 hb0
    refine CallS.of (Try.call15 _ _) (c_start w1.heap.size _ _ hD1) ?_
    rintro e wb ⟨rfl, hD2, kb⟩
    refine ⟨_, rfl, ?_⟩; (first | refine Then.go hmix ?_ | refine Sat.go hmix ?_ | refine ResK.go ?_ | skip); conv => whnf
    have hK2 := hK1.own kb hb0
    have e1 : (start0 (arm D 0 [])).down = false := rfl
    have e2 : (start0 (arm D 0 [])).armed = 0 := rfl
    generalize start0 (arm D 0 []) = D1 at *
    have hA4 := hAt hK2
    have c1 := hA4 1 _ rfl; have c2 := hA4 2 _ rfl; have c3 := hA4 3 _ rfl; have c4 := hA4 4 _ rfl
    clear hA3
    by_cases hF0 : y.F < 0
    · have hbf : isB y.F = false := by unfold isB; simp; omega
      (repeat ((first | refine Num.i64 (by omega) (by omega) ?_ | refine Num.i32 (by omega) (by omega) ?_ | refine Num.u8 (by omega) (by omega) ?_ | refine Br.tt ?_ | refine Br.ff ?_ | refine Br.not_yes ?_ | refine Br.dec_yes (by omega) ?_ | refine Br.dec_no (by omega) ?_ | refine Br.beq_yes (by omega) ?_ | refine Br.beq_no (by omega) ?_ | refine Br.bne_yes (by omega) ?_ | refine Br.bne_no (by omega) ?_ | refine Draw.text (by decide +kernel) ?_ | refine Idx.nat (by omega) ?_ | refine Idx.int (by omega) (by omega) ?_ | refine Cut.to (by omega) ?_ | refine Cut.from (by omega) (by omega) ?_ | refine Cut.both (by omega) (by omega) ?_ | refine Br.dec_yes (by with_reducible assumption) ?_ | refine Br.dec_no (by with_reducible assumption) ?_ | refine Br.yes (by with_reducible assumption) ?_ | refine Br.no (by with_reducible assumption) ?_ | refine Load.one (by rfl) (by with_reducible assumption) ?_ | refine (?_ : Sat _ _ _ _ _ _ _)); (first | refine Then.go hmix ?_ | refine Sat.go hmix ?_ | skip); conv => whnf))
      refine CallS.of (Try.call11 _ _) (c_appendE y.F y.S _ (app_bad e1 e2 y.S hbf) hD2 (by omega)) ?_
      rintro e wc ⟨rfl, hD3, kc⟩
      refine ⟨_, rfl, ?_⟩; (first | refine Then.go hmix ?_ | refine Sat.go hmix ?_ | refine ResK.go ?_ | skip); conv => whnf
      have hK3 := hK2.own kc hb0
      have hA5 := hAt hK3
      have d1 := hA5 1 _ rfl
      (repeat ((first | refine Num.i64 (by omega) (by omega) ?_ | refine Num.i32 (by omega) (by omega) ?_ | refine Num.u8 (by omega) (by omega) ?_ | refine Br.tt ?_ | refine Br.ff ?_ | refine Br.not_yes ?_ | refine Br.dec_yes (by omega) ?_ | refine Br.dec_no (by omega) ?_ | refine Br.beq_yes (by omega) ?_ | refine Br.beq_no (by omega) ?_ | refine Br.bne_yes (by omega) ?_ | refine Br.bne_no (by omega) ?_ | refine Draw.text (by decide +kernel) ?_ | refine Idx.nat (by omega) ?_ | refine Idx.int (by omega) (by omega) ?_ | refine Cut.to (by omega) ?_ | refine Cut.from (by omega) (by omega) ?_ | refine Cut.both (by omega) (by omega) ?_ | refine Br.dec_yes (by with_reducible assumption) ?_ | refine Br.dec_no (by with_reducible assumption) ?_ | refine Br.yes (by with_reducible assumption) ?_ | refine Br.no (by with_reducible assumption) ?_ | refine Load.one (by rfl) (by with_reducible assumption) ?_ | refine (?_ : Sat _ _ _ _ _ _ _)); (first | refine Then.go hmix ?_ | refine Sat.go hmix ?_ | skip); conv => whnf))
      refine CallS.of (Try.call12 _ _) (c_flushE y.F _ (flush_bad e1 e2 hbf) hD3) ?_
      rintro e wd ⟨rfl, hD4, kd⟩
      refine ⟨_, rfl, ?_⟩; (first | refine Then.go hmix ?_ | refine Sat.go hmix ?_ | refine ResK.go ?_ | skip); conv => whnf
      have hK4 := hK3.own kd hb0
      have hA6 := hAt hK4
      have d2 := hA6 1 _ rfl
      (repeat ((first | refine Num.i64 (by omega) (by omega) ?_ | refine Num.i32 (by omega) (by omega) ?_ | refine Num.u8 (by omega) (by omega) ?_ | refine Br.tt ?_ | refine Br.ff ?_ | refine Br.not_yes ?_ | refine Br.dec_yes (by omega) ?_ | refine Br.dec_no (by omega) ?_ | refine Br.beq_yes (by omega) ?_ | refine Br.beq_no (by omega) ?_ | refine Br.bne_yes (by omega) ?_ | refine Br.bne_no (by omega) ?_ | refine Draw.text (by decide +kernel) ?_ | refine Idx.nat (by omega) ?_ | refine Idx.int (by omega) (by omega) ?_ | refine Cut.to (by omega) ?_ | refine Cut.from (by omega) (by omega) ?_ | refine Cut.both (by omega) (by omega) ?_ | refine Br.dec_yes (by with_reducible assumption) ?_ | refine Br.dec_no (by with_reducible assumption) ?_ | refine Br.yes (by with_reducible assumption) ?_ | refine Br.no (by with_reducible assumption) ?_ | refine Load.one (by rfl) (by with_reducible assumption) ?_ | refine (?_ : Sat _ _ _ _ _ _ _)); (first | refine Then.go hmix ?_ | refine Sat.go hmix ?_ | skip); conv => whnf))
      refine CallS.of (Try.call33 _ _) (c_cutE y.F 0 _ (cut_bad e1 e2 0 hbf) hD4) ?_
      rintro e we ⟨rfl, hD5, ke⟩
      refine ⟨_, rfl, ?_⟩; (first | refine Then.go hmix ?_ | refine Sat.go hmix ?_ | refine ResK.go ?_ | skip); conv => whnf
      have hK5 := hK4.own ke hb0
      have hA7 := hAt hK5
      have d3 := hA7 1 _ rfl
      (repeat ((first | refine Num.i64 (by omega) (by omega) ?_ | refine Num.i32 (by omega) (by omega) ?_ | refine Num.u8 (by omega) (by omega) ?_ | refine Br.tt ?_ | refine Br.ff ?_ | refine Br.not_yes ?_ | refine Br.dec_yes (by omega) ?_ | refine Br.dec_no (by omega) ?_ | refine Br.beq_yes (by omega) ?_ | refine Br.beq_no (by omega) ?_ | refine Br.bne_yes (by omega) ?_ | refine Br.bne_no (by omega) ?_ | refine Draw.text (by decide +kernel) ?_ | refine Idx.nat (by omega) ?_ | refine Idx.int (by omega) (by omega) ?_ | refine Cut.to (by omega) ?_ | refine Cut.from (by omega) (by omega) ?_ | refine Cut.both (by omega) (by omega) ?_ | refine Br.dec_yes (by with_reducible assumption) ?_ | refine Br.dec_no (by with_reducible assumption) ?_ | refine Br.yes (by with_reducible assumption) ?_ | refine Br.no (by with_reducible assumption) ?_ | refine Load.one (by rfl) (by with_reducible assumption) ?_ | refine (?_ : Sat _ _ _ _ _ _ _)); (first | refine Then.go hmix ?_ | refine Sat.go hmix ?_ | skip); conv => whnf))
      refine CallS.of (Try.call13 _ _) (c_turnE y.F 1 _ (turn_bad e1 e2 (by rw [hbf]; rfl)) hD5) ?_
      rintro e wf ⟨rfl, hD6, kf⟩
      refine ⟨_, rfl, ?_⟩; (first | refine Then.go hmix ?_ | refine Sat.go hmix ?_ | refine ResK.go ?_ | skip); conv => whnf
      have hK6 := hK5.own kf hb0
      have hA8 := hAt hK6
      have d4 := hA8 1 _ rfl
      (repeat ((first | refine Num.i64 (by omega) (by omega) ?_ | refine Num.i32 (by omega) (by omega) ?_ | refine Num.u8 (by omega) (by omega) ?_ | refine Br.tt ?_ | refine Br.ff ?_ | refine Br.not_yes ?_ | refine Br.dec_yes (by omega) ?_ | refine Br.dec_no (by omega) ?_ | refine Br.beq_yes (by omega) ?_ | refine Br.beq_no (by omega) ?_ | refine Br.bne_yes (by omega) ?_ | refine Br.bne_no (by omega) ?_ | refine Draw.text (by decide +kernel) ?_ | refine Idx.nat (by omega) ?_ | refine Idx.int (by omega) (by omega) ?_ | refine Cut.to (by omega) ?_ | refine Cut.from (by omega) (by omega) ?_ | refine Cut.both (by omega) (by omega) ?_ | refine Br.dec_yes (by with_reducible assumption) ?_ | refine Br.dec_no (by with_reducible assumption) ?_ | refine Br.yes (by with_reducible assumption) ?_ | refine Br.no (by with_reducible assumption) ?_ | refine Load.one (by rfl) (by with_reducible assumption) ?_ | refine (?_ : Sat _ _ _ _ _ _ _)); (first | refine Then.go hmix ?_ | refine Sat.go hmix ?_ | skip); conv => whnf))
      refine CallS.of (Try.call13 _ _) (c_turnE 1 y.F _ (turn_bad e1 e2 (by rw [hbf, Bool.and_false])) hD6) ?_
      rintro e wg ⟨rfl, hD7, kg⟩
      refine ⟨_, rfl, ?_⟩; (first | refine Then.go hmix ?_ | refine Sat.go hmix ?_ | refine ResK.go ?_ | skip); conv => whnf
      have hK7 := hK6.own kg hb0
      have hA9 := hAt hK7
      have d5 := hA9 1 _ rfl
      (repeat ((first | refine Num.i64 (by omega) (by omega) ?_ | refine Num.i32 (by omega) (by omega) ?_ | refine Num.u8 (by omega) (by omega) ?_ | refine Br.tt ?_ | refine Br.ff ?_ | refine Br.not_yes ?_ | refine Br.dec_yes (by omega) ?_ | refine Br.dec_no (by omega) ?_ | refine Br.beq_yes (by omega) ?_ | refine Br.beq_no (by omega) ?_ | refine Br.bne_yes (by omega) ?_ | refine Br.bne_no (by omega) ?_ | refine Draw.text (by decide +kernel) ?_ | refine Idx.nat (by omega) ?_ | refine Idx.int (by omega) (by omega) ?_ | refine Cut.to (by omega) ?_ | refine Cut.from (by omega) (by omega) ?_ | refine Cut.both (by omega) (by omega) ?_ | refine Br.dec_yes (by with_reducible assumption) ?_ | refine Br.dec_no (by with_reducible assumption) ?_ | refine Br.yes (by with_reducible assumption) ?_ | refine Br.no (by with_reducible assumption) ?_ | refine Load.one (by rfl) (by with_reducible assumption) ?_ | refine (?_ : Sat _ _ _ _ _ _ _)); (first | refine Then.go hmix ?_ | refine Sat.go hmix ?_ | skip); conv => whnf))
      refine CallS.of (Try.call17 _ _) (c_sizeE y.F _ (size_bad hbf) hD7) ?_
      rintro e w' ⟨rfl, rfl⟩
      refine ⟨_, rfl, ?_⟩; (first | refine Then.go hmix ?_ | refine Sat.go hmix ?_ | refine ResK.go ?_ | skip); conv => whnf
      (repeat ((first | refine Num.i64 (by omega) (by omega) ?_ | refine Num.i32 (by omega) (by omega) ?_ | refine Num.u8 (by omega) (by omega) ?_ | refine Br.tt ?_ | refine Br.ff ?_ | refine Br.not_yes ?_ | refine Br.dec_yes (by omega) ?_ | refine Br.dec_no (by omega) ?_ | refine Br.beq_yes (by omega) ?_ | refine Br.beq_no (by omega) ?_ | refine Br.bne_yes (by omega) ?_ | refine Br.bne_no (by omega) ?_ | refine Draw.text (by decide +kernel) ?_ | refine Idx.nat (by omega) ?_ | refine Idx.int (by omega) (by omega) ?_ | refine Cut.to (by omega) ?_ | refine Cut.from (by omega) (by omega) ?_ | refine Cut.both (by omega) (by omega) ?_ | refine Br.dec_yes (by with_reducible assumption) ?_ | refine Br.dec_no (by with_reducible assumption) ?_ | refine Br.yes (by with_reducible assumption) ?_ | refine Br.no (by with_reducible assumption) ?_ | refine Load.one (by rfl) (by with_reducible assumption) ?_ | refine (?_ : Sat _ _ _ _ _ _ _)); (first | refine Then.go hmix ?_ | refine Sat.go hmix ?_ | skip); conv => whnf))
      refine CallS.of (Try.call14 _ _) (c_crashNe w1.heap.size D1 _ [] _ hD7 (.inl ⟨_, _, rfl, rfl⟩)) ?_
      rintro e wp ⟨rfl, hE1, kp⟩
      refine ⟨_, rfl, ?_⟩; (first | refine Then.go hmix ?_ | refine Sat.go hmix ?_ | refine ResK.go ?_ | skip); conv => whnf
      have hQ1 := hK7.own kp hb0
      have hdn : (crash D1 []).down = true := crash_down _ _
      generalize crash D1 [] = D2 at *
      refine CallS.of (Try.call19 _ _) (c_copy w1.heap.size D2 _ hE1) ?_
      rintro e wq ⟨rfl, hW1, hE2, kq⟩
      refine ⟨_, rfl, ?_⟩; (first | refine Then.go hmix ?_ | refine Sat.go hmix ?_ | refine ResK.go ?_ | skip); conv => whnf
      have hQ2 := hQ1.trans' kq
      have hltp := hE1.lt
      have hbp : w0.heap.size ≤ wp.heap.size := hQ1.size
      (repeat ((first | refine Num.i64 (by omega) (by omega) ?_ | refine Num.i32 (by omega) (by omega) ?_ | refine Num.u8 (by omega) (by omega) ?_ | refine Br.tt ?_ | refine Br.ff ?_ | refine Br.not_yes ?_ | refine Br.dec_yes (by omega) ?_ | refine Br.dec_no (by omega) ?_ | refine Br.beq_yes (by omega) ?_ | refine Br.beq_no (by omega) ?_ | refine Br.bne_yes (by omega) ?_ | refine Br.bne_no (by omega) ?_ | refine Draw.text (by decide +kernel) ?_ | refine Idx.nat (by omega) ?_ | refine Idx.int (by omega) (by omega) ?_ | refine Cut.to (by omega) ?_ | refine Cut.from (by omega) (by omega) ?_ | refine Cut.both (by omega) (by omega) ?_ | refine Br.dec_yes (by with_reducible assumption) ?_ | refine Br.dec_no (by with_reducible assumption) ?_ | refine Br.yes (by with_reducible assumption) ?_ | refine Br.no (by with_reducible assumption) ?_ | refine Load.one (by rfl) (by with_reducible assumption) ?_ | refine (?_ : Sat _ _ _ _ _ _ _)); (first | refine Then.go hmix ?_ | refine Sat.go hmix ?_ | skip); conv => whnf))
      refine CallS.of (Try.call15 _ _) (c_start wp.heap.size D2 _ hW1) ?_
      rintro e wr1 ⟨rfl, hW2, kr⟩
      refine ⟨_, rfl, ?_⟩; (first | refine Then.go hmix ?_ | refine Sat.go hmix ?_ | refine ResK.go ?_ | skip); conv => whnf
      have hQ3 := hQ2.own kr hbp
      have hE3 := hE2.otherD kr (by omega) hW1.sh
      have hA10 := hAt hQ3
      have g1 := hA10 1 _ rfl
      (repeat ((first | refine Num.i64 (by omega) (by omega) ?_ | refine Num.i32 (by omega) (by omega) ?_ | refine Num.u8 (by omega) (by omega) ?_ | refine Br.tt ?_ | refine Br.ff ?_ | refine Br.not_yes ?_ | refine Br.dec_yes (by omega) ?_ | refine Br.dec_no (by omega) ?_ | refine Br.beq_yes (by omega) ?_ | refine Br.beq_no (by omega) ?_ | refine Br.bne_yes (by omega) ?_ | refine Br.bne_no (by omega) ?_ | refine Draw.text (by decide +kernel) ?_ | refine Idx.nat (by omega) ?_ | refine Idx.int (by omega) (by omega) ?_ | refine Cut.to (by omega) ?_ | refine Cut.from (by omega) (by omega) ?_ | refine Cut.both (by omega) (by omega) ?_ | refine Br.dec_yes (by with_reducible assumption) ?_ | refine Br.dec_no (by with_reducible assumption) ?_ | refine Br.yes (by with_reducible assumption) ?_ | refine Br.no (by with_reducible assumption) ?_ | refine Load.one (by rfl) (by with_reducible assumption) ?_ | refine (?_ : Sat _ _ _ _ _ _ _)); (first | refine Then.go hmix ?_ | refine Sat.go hmix ?_ | skip); conv => whnf))
      refine CallS.of (Try.call16 _ _) (c_readE y.F _ (read_dn y.F hdn) hE3) ?_
      rintro e ws ⟨rfl, ks⟩
      refine ⟨_, rfl, ?_⟩; (first | refine Then.go hmix ?_ | refine Sat.go hmix ?_ | refine ResK.go ?_ | skip); conv => whnf
      have hQ4 := hQ3.trans' ks
      have hE4 := hE3.keep0 ks
      have hW4 := hW2.keep0 ks
      (repeat ((first | refine Num.i64 (by omega) (by omega) ?_ | refine Num.i32 (by omega) (by omega) ?_ | refine Num.u8 (by omega) (by omega) ?_ | refine Br.tt ?_ | refine Br.ff ?_ | refine Br.not_yes ?_ | refine Br.dec_yes (by omega) ?_ | refine Br.dec_no (by omega) ?_ | refine Br.beq_yes (by omega) ?_ | refine Br.beq_no (by omega) ?_ | refine Br.bne_yes (by omega) ?_ | refine Br.bne_no (by omega) ?_ | refine Draw.text (by decide +kernel) ?_ | refine Idx.nat (by omega) ?_ | refine Idx.int (by omega) (by omega) ?_ | refine Cut.to (by omega) ?_ | refine Cut.from (by omega) (by omega) ?_ | refine Cut.both (by omega) (by omega) ?_ | refine Br.dec_yes (by with_reducible assumption) ?_ | refine Br.dec_no (by with_reducible assumption) ?_ | refine Br.yes (by with_reducible assumption) ?_ | refine Br.no (by with_reducible assumption) ?_ | refine Load.one (by rfl) (by with_reducible assumption) ?_ | refine (?_ : Sat _ _ _ _ _ _ _)); (first | refine Then.go hmix ?_ | refine Sat.go hmix ?_ | skip); conv => whnf))
      refine RunV.of (build_two 1 1 ws) ?_
      (first | refine Then.go hmix ?_ | refine Sat.go hmix ?_ | refine ResK.go ?_ | skip); conv => whnf
      have hE5 := hE4.alloc (.cells #[.int .i64 1, .int .i64 1] 3)
      have hW5 := hW4.alloc (.cells #[.int .i64 1, .int .i64 1] 3)
      have hQ5 := hQ4.alloc (.cells #[.int .i64 1, .int .i64 1] 3)
      refine CallS.of (Try.call14 _ _) (c_crashE _ [1, 1] _ (crash_dn _ hdn) hE5 (ints_twoN _ ws 1 1 hE4.lt)) ?_
      rintro e wt ⟨rfl, hE6, kt⟩
      refine ⟨_, rfl, ?_⟩; (first | refine Then.go hmix ?_ | refine Sat.go hmix ?_ | refine ResK.go ?_ | skip); conv => whnf
      have hQ6 := hQ5.own kt hb0
      have hW6 := hW5.otherD kt (by omega) hE5.sh
      have hA11 := hAt hQ6
      have q1 := hA11 1 _ rfl; have q4 := hA11 4 _ rfl
      (repeat ((first | refine Num.i64 (by omega) (by omega) ?_ | refine Num.i32 (by omega) (by omega) ?_ | refine Num.u8 (by omega) (by omega) ?_ | refine Br.tt ?_ | refine Br.ff ?_ | refine Br.not_yes ?_ | refine Br.dec_yes (by omega) ?_ | refine Br.dec_no (by omega) ?_ | refine Br.beq_yes (by omega) ?_ | refine Br.beq_no (by omega) ?_ | refine Br.bne_yes (by omega) ?_ | refine Br.bne_no (by omega) ?_ | refine Draw.text (by decide +kernel) ?_ | refine Idx.nat (by omega) ?_ | refine Idx.int (by omega) (by omega) ?_ | refine Cut.to (by omega) ?_ | refine Cut.from (by omega) (by omega) ?_ | refine Cut.both (by omega) (by omega) ?_ | refine Br.dec_yes (by with_reducible assumption) ?_ | refine Br.dec_no (by with_reducible assumption) ?_ | refine Br.yes (by with_reducible assumption) ?_ | refine Br.no (by with_reducible assumption) ?_ | refine Load.one (by rfl) (by with_reducible assumption) ?_ | refine (?_ : Sat _ _ _ _ _ _ _)); (first | refine Then.go hmix ?_ | refine Sat.go hmix ?_ | skip); conv => whnf))
      refine CallS.of (Try.call11 _ _) (c_appendE y.F y.S _ (app_dn y.F y.S hdn) hE6 (by omega)) ?_
      rintro e wu ⟨rfl, hE7, ku⟩
      refine ⟨_, rfl, ?_⟩; (first | refine Then.go hmix ?_ | refine Sat.go hmix ?_ | refine ResK.go ?_ | skip); conv => whnf
      have hQ7 := hQ6.own ku hb0
      have hW7 := hW6.otherD ku (by omega) hE6.sh
      have hA12 := hAt hQ7
      have r1 := hA12 1 _ rfl
      (repeat ((first | refine Num.i64 (by omega) (by omega) ?_ | refine Num.i32 (by omega) (by omega) ?_ | refine Num.u8 (by omega) (by omega) ?_ | refine Br.tt ?_ | refine Br.ff ?_ | refine Br.not_yes ?_ | refine Br.dec_yes (by omega) ?_ | refine Br.dec_no (by omega) ?_ | refine Br.beq_yes (by omega) ?_ | refine Br.beq_no (by omega) ?_ | refine Br.bne_yes (by omega) ?_ | refine Br.bne_no (by omega) ?_ | refine Draw.text (by decide +kernel) ?_ | refine Idx.nat (by omega) ?_ | refine Idx.int (by omega) (by omega) ?_ | refine Cut.to (by omega) ?_ | refine Cut.from (by omega) (by omega) ?_ | refine Cut.both (by omega) (by omega) ?_ | refine Br.dec_yes (by with_reducible assumption) ?_ | refine Br.dec_no (by with_reducible assumption) ?_ | refine Br.yes (by with_reducible assumption) ?_ | refine Br.no (by with_reducible assumption) ?_ | refine Load.one (by rfl) (by with_reducible assumption) ?_ | refine (?_ : Sat _ _ _ _ _ _ _)); (first | refine Then.go hmix ?_ | refine Sat.go hmix ?_ | skip); conv => whnf))
      refine CallS.of (Try.call12 _ _) (c_flushE y.F _ (flush_dn y.F hdn) hE7) ?_
      rintro e wv ⟨rfl, hE8, kv⟩
      refine ⟨_, rfl, ?_⟩; (first | refine Then.go hmix ?_ | refine Sat.go hmix ?_ | refine ResK.go ?_ | skip); conv => whnf
      have hQ8 := hQ7.own kv hb0
      have hW8 := hW7.otherD kv (by omega) hE7.sh
      have hA13 := hAt hQ8
      have s1 := hA13 1 _ rfl; have s3 := hA13 3 _ rfl
      (repeat ((first | refine Num.i64 (by omega) (by omega) ?_ | refine Num.i32 (by omega) (by omega) ?_ | refine Num.u8 (by omega) (by omega) ?_ | refine Br.tt ?_ | refine Br.ff ?_ | refine Br.not_yes ?_ | refine Br.dec_yes (by omega) ?_ | refine Br.dec_no (by omega) ?_ | refine Br.beq_yes (by omega) ?_ | refine Br.beq_no (by omega) ?_ | refine Br.bne_yes (by omega) ?_ | refine Br.bne_no (by omega) ?_ | refine Draw.text (by decide +kernel) ?_ | refine Idx.nat (by omega) ?_ | refine Idx.int (by omega) (by omega) ?_ | refine Cut.to (by omega) ?_ | refine Cut.from (by omega) (by omega) ?_ | refine Cut.both (by omega) (by omega) ?_ | refine Br.dec_yes (by with_reducible assumption) ?_ | refine Br.dec_no (by with_reducible assumption) ?_ | refine Br.yes (by with_reducible assumption) ?_ | refine Br.no (by with_reducible assumption) ?_ | refine Load.one (by rfl) (by with_reducible assumption) ?_ | refine (?_ : Sat _ _ _ _ _ _ _)); (first | refine Then.go hmix ?_ | refine Sat.go hmix ?_ | skip); conv => whnf))
      refine CallS.of (Try.call33 _ _) (c_cutE y.F y.N _ (cut_dn y.F y.N hdn) hE8) ?_
      rintro e wx ⟨rfl, hE9, kx⟩
      refine ⟨_, rfl, ?_⟩; (first | refine Then.go hmix ?_ | refine Sat.go hmix ?_ | refine ResK.go ?_ | skip); conv => whnf
      have hQ9 := hQ8.own kx hb0
      have hW9 := hW8.otherD kx (by omega) hE8.sh
      have hA14 := hAt hQ9
      have t1 := hA14 1 _ rfl; have t2 := hA14 2 _ rfl
      (repeat ((first | refine Num.i64 (by omega) (by omega) ?_ | refine Num.i32 (by omega) (by omega) ?_ | refine Num.u8 (by omega) (by omega) ?_ | refine Br.tt ?_ | refine Br.ff ?_ | refine Br.not_yes ?_ | refine Br.dec_yes (by omega) ?_ | refine Br.dec_no (by omega) ?_ | refine Br.beq_yes (by omega) ?_ | refine Br.beq_no (by omega) ?_ | refine Br.bne_yes (by omega) ?_ | refine Br.bne_no (by omega) ?_ | refine Draw.text (by decide +kernel) ?_ | refine Idx.nat (by omega) ?_ | refine Idx.int (by omega) (by omega) ?_ | refine Cut.to (by omega) ?_ | refine Cut.from (by omega) (by omega) ?_ | refine Cut.both (by omega) (by omega) ?_ | refine Br.dec_yes (by with_reducible assumption) ?_ | refine Br.dec_no (by with_reducible assumption) ?_ | refine Br.yes (by with_reducible assumption) ?_ | refine Br.no (by with_reducible assumption) ?_ | refine Load.one (by rfl) (by with_reducible assumption) ?_ | refine (?_ : Sat _ _ _ _ _ _ _)); (first | refine Then.go hmix ?_ | refine Sat.go hmix ?_ | skip); conv => whnf))
      refine CallS.of (Try.call13 _ _) (c_turnE y.F y.G _ (turn_dn y.F y.G hdn) hE9) ?_
      rintro e wy ⟨rfl, hE10, ky⟩
      refine ⟨_, rfl, ?_⟩; (first | refine Then.go hmix ?_ | refine Sat.go hmix ?_ | refine ResK.go ?_ | skip); conv => whnf
      have hQ10 := hQ9.own ky hb0
      have hW10 := hW9.otherD ky (by omega) hE9.sh
      (repeat ((first | refine Num.i64 (by omega) (by omega) ?_ | refine Num.i32 (by omega) (by omega) ?_ | refine Num.u8 (by omega) (by omega) ?_ | refine Br.tt ?_ | refine Br.ff ?_ | refine Br.not_yes ?_ | refine Br.dec_yes (by omega) ?_ | refine Br.dec_no (by omega) ?_ | refine Br.beq_yes (by omega) ?_ | refine Br.beq_no (by omega) ?_ | refine Br.bne_yes (by omega) ?_ | refine Br.bne_no (by omega) ?_ | refine Draw.text (by decide +kernel) ?_ | refine Idx.nat (by omega) ?_ | refine Idx.int (by omega) (by omega) ?_ | refine Cut.to (by omega) ?_ | refine Cut.from (by omega) (by omega) ?_ | refine Cut.both (by omega) (by omega) ?_ | refine Br.dec_yes (by with_reducible assumption) ?_ | refine Br.dec_no (by with_reducible assumption) ?_ | refine Br.yes (by with_reducible assumption) ?_ | refine Br.no (by with_reducible assumption) ?_ | refine Load.one (by rfl) (by with_reducible assumption) ?_ | refine (?_ : Sat _ _ _ _ _ _ _)); (first | refine Then.go hmix ?_ | refine Sat.go hmix ?_ | skip); conv => whnf))
      refine CallS.of (Try.call21 _ _) (c_downE _ hdn hE10) ?_
      rintro e w' ⟨rfl, rfl⟩
      refine ⟨_, rfl, ?_⟩; (first | refine Then.go hmix ?_ | refine Sat.go hmix ?_ | refine ResK.go ?_ | skip); conv => whnf
      (repeat ((first | refine Num.i64 (by omega) (by omega) ?_ | refine Num.i32 (by omega) (by omega) ?_ | refine Num.u8 (by omega) (by omega) ?_ | refine Br.tt ?_ | refine Br.ff ?_ | refine Br.not_yes ?_ | refine Br.dec_yes (by omega) ?_ | refine Br.dec_no (by omega) ?_ | refine Br.beq_yes (by omega) ?_ | refine Br.beq_no (by omega) ?_ | refine Br.bne_yes (by omega) ?_ | refine Br.bne_no (by omega) ?_ | refine Draw.text (by decide +kernel) ?_ | refine Idx.nat (by omega) ?_ | refine Idx.int (by omega) (by omega) ?_ | refine Cut.to (by omega) ?_ | refine Cut.from (by omega) (by omega) ?_ | refine Cut.both (by omega) (by omega) ?_ | refine Br.dec_yes (by with_reducible assumption) ?_ | refine Br.dec_no (by with_reducible assumption) ?_ | refine Br.yes (by with_reducible assumption) ?_ | refine Br.no (by with_reducible assumption) ?_ | refine Load.one (by rfl) (by with_reducible assumption) ?_ | refine (?_ : Sat _ _ _ _ _ _ _)); (first | refine Then.go hmix ?_ | refine Sat.go hmix ?_ | skip); conv => whnf))
      refine CallS.of (Try.call15 _ _) (c_start w1.heap.size D2 _ hE10) ?_
      rintro e wz ⟨rfl, hE11, kz⟩
      refine ⟨_, rfl, ?_⟩; (first | refine Then.go hmix ?_ | refine Sat.go hmix ?_ | refine ResK.go ?_ | skip); conv => whnf
      have hQ11 := hQ10.own kz hb0
      have hW11 := hW10.otherD kz (by omega) hE10.sh
      refine Loop.intro (ι := Nat) (fun i => [(5, .bool true), (6, .pointer (some ⟨w1.heap.size, 0, none⟩)), (8, .pointer (some ⟨wp.heap.size, 0, none⟩)), (11, .int .i64 i)])
        (fun i wr' => Keeps w0 wr' none_ ∧ i ≤ 8 ∧ DiskAt wr' w1.heap.size (start0 D2) ∧ DiskAt wr' wp.heap.size (start0 D2)) (fun i => 8 - i) 0 ⟨rfl, rfl, rfl, rfl, trivial⟩ ⟨hQ11, Nat.zero_le _, hE11, hW11⟩ ?_
      rintro f g2 wr2 ⟨hKf, hf8, hDf, hWf⟩
      (first | refine Then.go hmix ?_ | refine Sat.go hmix ?_ | refine ResK.go ?_ | skip); conv => whnf
      by_cases hf : f < 8
      · (repeat ((first | refine Num.i64 (by omega) (by omega) ?_ | refine Num.i32 (by omega) (by omega) ?_ | refine Num.u8 (by omega) (by omega) ?_ | refine Br.tt ?_ | refine Br.ff ?_ | refine Br.not_yes ?_ | refine Br.dec_yes (by omega) ?_ | refine Br.dec_no (by omega) ?_ | refine Br.beq_yes (by omega) ?_ | refine Br.beq_no (by omega) ?_ | refine Br.bne_yes (by omega) ?_ | refine Br.bne_no (by omega) ?_ | refine Draw.text (by decide +kernel) ?_ | refine Idx.nat (by omega) ?_ | refine Idx.int (by omega) (by omega) ?_ | refine Cut.to (by omega) ?_ | refine Cut.from (by omega) (by omega) ?_ | refine Cut.both (by omega) (by omega) ?_ | refine Br.dec_yes (by with_reducible assumption) ?_ | refine Br.dec_no (by with_reducible assumption) ?_ | refine Br.yes (by with_reducible assumption) ?_ | refine Br.no (by with_reducible assumption) ?_ | refine Load.one (by rfl) (by with_reducible assumption) ?_ | refine (?_ : Sat _ _ _ _ _ _ _)); (first | refine Then.go hmix ?_ | refine Sat.go hmix ?_ | skip); conv => whnf))
        refine CallS.of (Try.call16 _ _) (c_read w1.heap.size (start0 D2) f _ hDf) ?_
        rintro e wd2 ⟨rfl, kd2⟩
        rw [read_ok (D := start0 D2) rfl (by omega) (by omega), Int.toNat_natCast]
        refine ⟨_, rfl, ?_⟩; (first | refine Then.go hmix ?_ | refine Sat.go hmix ?_ | refine ResK.go ?_ | skip); conv => whnf
        (repeat ((first | refine Num.i64 (by omega) (by omega) ?_ | refine Num.i32 (by omega) (by omega) ?_ | refine Num.u8 (by omega) (by omega) ?_ | refine Br.tt ?_ | refine Br.ff ?_ | refine Br.not_yes ?_ | refine Br.dec_yes (by omega) ?_ | refine Br.dec_no (by omega) ?_ | refine Br.beq_yes (by omega) ?_ | refine Br.beq_no (by omega) ?_ | refine Br.bne_yes (by omega) ?_ | refine Br.bne_no (by omega) ?_ | refine Draw.text (by decide +kernel) ?_ | refine Idx.nat (by omega) ?_ | refine Idx.int (by omega) (by omega) ?_ | refine Cut.to (by omega) ?_ | refine Cut.from (by omega) (by omega) ?_ | refine Cut.both (by omega) (by omega) ?_ | refine Br.dec_yes (by with_reducible assumption) ?_ | refine Br.dec_no (by with_reducible assumption) ?_ | refine Br.yes (by with_reducible assumption) ?_ | refine Br.no (by with_reducible assumption) ?_ | refine Load.one (by rfl) (by with_reducible assumption) ?_ | refine (?_ : Sat _ _ _ _ _ _ _)); (first | refine Then.go hmix ?_ | refine Sat.go hmix ?_ | skip); conv => whnf))
        refine CallS.of (Try.call16 _ _) (c_read wp.heap.size (start0 D2) f _ (hWf.keep0 kd2)) ?_
        rintro e we2 ⟨rfl, ke2⟩
        rw [read_ok (D := start0 D2) rfl (by omega) (by omega), Int.toNat_natCast]
        refine ⟨_, rfl, ?_⟩; (first | refine Then.go hmix ?_ | refine Sat.go hmix ?_ | refine ResK.go ?_ | skip); conv => whnf
        (repeat ((first | refine Num.i64 (by omega) (by omega) ?_ | refine Num.i32 (by omega) (by omega) ?_ | refine Num.u8 (by omega) (by omega) ?_ | refine Br.tt ?_ | refine Br.ff ?_ | refine Br.not_yes ?_ | refine Br.dec_yes (by omega) ?_ | refine Br.dec_no (by omega) ?_ | refine Br.beq_yes (by omega) ?_ | refine Br.beq_no (by omega) ?_ | refine Br.bne_yes (by omega) ?_ | refine Br.bne_no (by omega) ?_ | refine Draw.text (by decide +kernel) ?_ | refine Idx.nat (by omega) ?_ | refine Idx.int (by omega) (by omega) ?_ | refine Cut.to (by omega) ?_ | refine Cut.from (by omega) (by omega) ?_ | refine Cut.both (by omega) (by omega) ?_ | refine Br.dec_yes (by with_reducible assumption) ?_ | refine Br.dec_no (by with_reducible assumption) ?_ | refine Br.yes (by with_reducible assumption) ?_ | refine Br.no (by with_reducible assumption) ?_ | refine Load.one (by rfl) (by with_reducible assumption) ?_ | refine (?_ : Sat _ _ _ _ _ _ _)); (first | refine Then.go hmix ?_ | refine Sat.go hmix ?_ | skip); conv => whnf))
        refine Br.dec_yes (by rfl) ?_
        (first | refine Then.go hmix ?_ | refine Sat.go hmix ?_ | refine ResK.go ?_ | skip); conv => whnf
        (repeat ((first | refine Num.i64 (by omega) (by omega) ?_ | refine Num.i32 (by omega) (by omega) ?_ | refine Num.u8 (by omega) (by omega) ?_ | refine Br.tt ?_ | refine Br.ff ?_ | refine Br.not_yes ?_ | refine Br.dec_yes (by omega) ?_ | refine Br.dec_no (by omega) ?_ | refine Br.beq_yes (by omega) ?_ | refine Br.beq_no (by omega) ?_ | refine Br.bne_yes (by omega) ?_ | refine Br.bne_no (by omega) ?_ | refine Draw.text (by decide +kernel) ?_ | refine Idx.nat (by omega) ?_ | refine Idx.int (by omega) (by omega) ?_ | refine Cut.to (by omega) ?_ | refine Cut.from (by omega) (by omega) ?_ | refine Cut.both (by omega) (by omega) ?_ | refine Br.dec_yes (by with_reducible assumption) ?_ | refine Br.dec_no (by with_reducible assumption) ?_ | refine Br.yes (by with_reducible assumption) ?_ | refine Br.no (by with_reducible assumption) ?_ | refine Load.one (by rfl) (by with_reducible assumption) ?_ | refine (?_ : Sat _ _ _ _ _ _ _)); (first | refine Then.go hmix ?_ | refine Sat.go hmix ?_ | skip); conv => whnf))
        exact ⟨f + 1, ⟨rfl, rfl, rfl, rfl, trivial⟩, ⟨(hKf.trans' kd2).trans' ke2, by omega, (hDf.keep0 kd2).keep0 ke2, (hWf.keep0 kd2).keep0 ke2⟩, by show 8 - (f + 1) < 8 - f; omega⟩
      · (repeat ((first | refine Num.i64 (by omega) (by omega) ?_ | refine Num.i32 (by omega) (by omega) ?_ | refine Num.u8 (by omega) (by omega) ?_ | refine Br.tt ?_ | refine Br.ff ?_ | refine Br.not_yes ?_ | refine Br.dec_yes (by omega) ?_ | refine Br.dec_no (by omega) ?_ | refine Br.beq_yes (by omega) ?_ | refine Br.beq_no (by omega) ?_ | refine Br.bne_yes (by omega) ?_ | refine Br.bne_no (by omega) ?_ | refine Draw.text (by decide +kernel) ?_ | refine Idx.nat (by omega) ?_ | refine Idx.int (by omega) (by omega) ?_ | refine Cut.to (by omega) ?_ | refine Cut.from (by omega) (by omega) ?_ | refine Cut.both (by omega) (by omega) ?_ | refine Br.dec_yes (by with_reducible assumption) ?_ | refine Br.dec_no (by with_reducible assumption) ?_ | refine Br.yes (by with_reducible assumption) ?_ | refine Br.no (by with_reducible assumption) ?_ | refine Load.one (by rfl) (by with_reducible assumption) ?_ | refine (?_ : Sat _ _ _ _ _ _ _)); (first | refine Then.go hmix ?_ | refine Sat.go hmix ?_ | skip); conv => whnf))
        refine CallS.of (Try.call21 _ _) (c_downE (x := false) _ rfl hDf) ?_
        rintro e w' ⟨rfl, rfl⟩
        refine ⟨_, rfl, ?_⟩; (first | refine Then.go hmix ?_ | refine Sat.go hmix ?_ | refine ResK.go ?_ | skip); conv => whnf
        (repeat ((first | refine Num.i64 (by omega) (by omega) ?_ | refine Num.i32 (by omega) (by omega) ?_ | refine Num.u8 (by omega) (by omega) ?_ | refine Br.tt ?_ | refine Br.ff ?_ | refine Br.not_yes ?_ | refine Br.dec_yes (by omega) ?_ | refine Br.dec_no (by omega) ?_ | refine Br.beq_yes (by omega) ?_ | refine Br.beq_no (by omega) ?_ | refine Br.bne_yes (by omega) ?_ | refine Br.bne_no (by omega) ?_ | refine Draw.text (by decide +kernel) ?_ | refine Idx.nat (by omega) ?_ | refine Idx.int (by omega) (by omega) ?_ | refine Cut.to (by omega) ?_ | refine Cut.from (by omega) (by omega) ?_ | refine Cut.both (by omega) (by omega) ?_ | refine Br.dec_yes (by with_reducible assumption) ?_ | refine Br.dec_no (by with_reducible assumption) ?_ | refine Br.yes (by with_reducible assumption) ?_ | refine Br.no (by with_reducible assumption) ?_ | refine Load.one (by rfl) (by with_reducible assumption) ?_ | refine (?_ : Sat _ _ _ _ _ _ _)); (first | refine Then.go hmix ?_ | refine Sat.go hmix ?_ | skip); conv => whnf))
        exact ⟨rfl, hK0.trans' hKf⟩
    by_cases hF7 : 7 < y.F
    · have hbf : isB y.F = false := by unfold isB; simp; omega
      (repeat ((first | refine Num.i64 (by omega) (by omega) ?_ | refine Num.i32 (by omega) (by omega) ?_ | refine Num.u8 (by omega) (by omega) ?_ | refine Br.tt ?_ | refine Br.ff ?_ | refine Br.not_yes ?_ | refine Br.dec_yes (by omega) ?_ | refine Br.dec_no (by omega) ?_ | refine Br.beq_yes (by omega) ?_ | refine Br.beq_no (by omega) ?_ | refine Br.bne_yes (by omega) ?_ | refine Br.bne_no (by omega) ?_ | refine Draw.text (by decide +kernel) ?_ | refine Idx.nat (by omega) ?_ | refine Idx.int (by omega) (by omega) ?_ | refine Cut.to (by omega) ?_ | refine Cut.from (by omega) (by omega) ?_ | refine Cut.both (by omega) (by omega) ?_ | refine Br.dec_yes (by with_reducible assumption) ?_ | refine Br.dec_no (by with_reducible assumption) ?_ | refine Br.yes (by with_reducible assumption) ?_ | refine Br.no (by with_reducible assumption) ?_ | refine Load.one (by rfl) (by with_reducible assumption) ?_ | refine (?_ : Sat _ _ _ _ _ _ _)); (first | refine Then.go hmix ?_ | refine Sat.go hmix ?_ | skip); conv => whnf))
      refine CallS.of (Try.call11 _ _) (c_appendE y.F y.S _ (app_bad e1 e2 y.S hbf) hD2 (by omega)) ?_
      rintro e wc ⟨rfl, hD3, kc⟩
      refine ⟨_, rfl, ?_⟩; (first | refine Then.go hmix ?_ | refine Sat.go hmix ?_ | refine ResK.go ?_ | skip); conv => whnf
      have hK3 := hK2.own kc hb0
      have hA5 := hAt hK3
      have d1 := hA5 1 _ rfl
      (repeat ((first | refine Num.i64 (by omega) (by omega) ?_ | refine Num.i32 (by omega) (by omega) ?_ | refine Num.u8 (by omega) (by omega) ?_ | refine Br.tt ?_ | refine Br.ff ?_ | refine Br.not_yes ?_ | refine Br.dec_yes (by omega) ?_ | refine Br.dec_no (by omega) ?_ | refine Br.beq_yes (by omega) ?_ | refine Br.beq_no (by omega) ?_ | refine Br.bne_yes (by omega) ?_ | refine Br.bne_no (by omega) ?_ | refine Draw.text (by decide +kernel) ?_ | refine Idx.nat (by omega) ?_ | refine Idx.int (by omega) (by omega) ?_ | refine Cut.to (by omega) ?_ | refine Cut.from (by omega) (by omega) ?_ | refine Cut.both (by omega) (by omega) ?_ | refine Br.dec_yes (by with_reducible assumption) ?_ | refine Br.dec_no (by with_reducible assumption) ?_ | refine Br.yes (by with_reducible assumption) ?_ | refine Br.no (by with_reducible assumption) ?_ | refine Load.one (by rfl) (by with_reducible assumption) ?_ | refine (?_ : Sat _ _ _ _ _ _ _)); (first | refine Then.go hmix ?_ | refine Sat.go hmix ?_ | skip); conv => whnf))
      refine CallS.of (Try.call12 _ _) (c_flushE y.F _ (flush_bad e1 e2 hbf) hD3) ?_
      rintro e wd ⟨rfl, hD4, kd⟩
      refine ⟨_, rfl, ?_⟩; (first | refine Then.go hmix ?_ | refine Sat.go hmix ?_ | refine ResK.go ?_ | skip); conv => whnf
      have hK4 := hK3.own kd hb0
      have hA6 := hAt hK4
      have d2 := hA6 1 _ rfl
      (repeat ((first | refine Num.i64 (by omega) (by omega) ?_ | refine Num.i32 (by omega) (by omega) ?_ | refine Num.u8 (by omega) (by omega) ?_ | refine Br.tt ?_ | refine Br.ff ?_ | refine Br.not_yes ?_ | refine Br.dec_yes (by omega) ?_ | refine Br.dec_no (by omega) ?_ | refine Br.beq_yes (by omega) ?_ | refine Br.beq_no (by omega) ?_ | refine Br.bne_yes (by omega) ?_ | refine Br.bne_no (by omega) ?_ | refine Draw.text (by decide +kernel) ?_ | refine Idx.nat (by omega) ?_ | refine Idx.int (by omega) (by omega) ?_ | refine Cut.to (by omega) ?_ | refine Cut.from (by omega) (by omega) ?_ | refine Cut.both (by omega) (by omega) ?_ | refine Br.dec_yes (by with_reducible assumption) ?_ | refine Br.dec_no (by with_reducible assumption) ?_ | refine Br.yes (by with_reducible assumption) ?_ | refine Br.no (by with_reducible assumption) ?_ | refine Load.one (by rfl) (by with_reducible assumption) ?_ | refine (?_ : Sat _ _ _ _ _ _ _)); (first | refine Then.go hmix ?_ | refine Sat.go hmix ?_ | skip); conv => whnf))
      refine CallS.of (Try.call33 _ _) (c_cutE y.F 0 _ (cut_bad e1 e2 0 hbf) hD4) ?_
      rintro e we ⟨rfl, hD5, ke⟩
      refine ⟨_, rfl, ?_⟩; (first | refine Then.go hmix ?_ | refine Sat.go hmix ?_ | refine ResK.go ?_ | skip); conv => whnf
      have hK5 := hK4.own ke hb0
      have hA7 := hAt hK5
      have d3 := hA7 1 _ rfl
      (repeat ((first | refine Num.i64 (by omega) (by omega) ?_ | refine Num.i32 (by omega) (by omega) ?_ | refine Num.u8 (by omega) (by omega) ?_ | refine Br.tt ?_ | refine Br.ff ?_ | refine Br.not_yes ?_ | refine Br.dec_yes (by omega) ?_ | refine Br.dec_no (by omega) ?_ | refine Br.beq_yes (by omega) ?_ | refine Br.beq_no (by omega) ?_ | refine Br.bne_yes (by omega) ?_ | refine Br.bne_no (by omega) ?_ | refine Draw.text (by decide +kernel) ?_ | refine Idx.nat (by omega) ?_ | refine Idx.int (by omega) (by omega) ?_ | refine Cut.to (by omega) ?_ | refine Cut.from (by omega) (by omega) ?_ | refine Cut.both (by omega) (by omega) ?_ | refine Br.dec_yes (by with_reducible assumption) ?_ | refine Br.dec_no (by with_reducible assumption) ?_ | refine Br.yes (by with_reducible assumption) ?_ | refine Br.no (by with_reducible assumption) ?_ | refine Load.one (by rfl) (by with_reducible assumption) ?_ | refine (?_ : Sat _ _ _ _ _ _ _)); (first | refine Then.go hmix ?_ | refine Sat.go hmix ?_ | skip); conv => whnf))
      refine CallS.of (Try.call13 _ _) (c_turnE y.F 1 _ (turn_bad e1 e2 (by rw [hbf]; rfl)) hD5) ?_
      rintro e wf ⟨rfl, hD6, kf⟩
      refine ⟨_, rfl, ?_⟩; (first | refine Then.go hmix ?_ | refine Sat.go hmix ?_ | refine ResK.go ?_ | skip); conv => whnf
      have hK6 := hK5.own kf hb0
      have hA8 := hAt hK6
      have d4 := hA8 1 _ rfl
      (repeat ((first | refine Num.i64 (by omega) (by omega) ?_ | refine Num.i32 (by omega) (by omega) ?_ | refine Num.u8 (by omega) (by omega) ?_ | refine Br.tt ?_ | refine Br.ff ?_ | refine Br.not_yes ?_ | refine Br.dec_yes (by omega) ?_ | refine Br.dec_no (by omega) ?_ | refine Br.beq_yes (by omega) ?_ | refine Br.beq_no (by omega) ?_ | refine Br.bne_yes (by omega) ?_ | refine Br.bne_no (by omega) ?_ | refine Draw.text (by decide +kernel) ?_ | refine Idx.nat (by omega) ?_ | refine Idx.int (by omega) (by omega) ?_ | refine Cut.to (by omega) ?_ | refine Cut.from (by omega) (by omega) ?_ | refine Cut.both (by omega) (by omega) ?_ | refine Br.dec_yes (by with_reducible assumption) ?_ | refine Br.dec_no (by with_reducible assumption) ?_ | refine Br.yes (by with_reducible assumption) ?_ | refine Br.no (by with_reducible assumption) ?_ | refine Load.one (by rfl) (by with_reducible assumption) ?_ | refine (?_ : Sat _ _ _ _ _ _ _)); (first | refine Then.go hmix ?_ | refine Sat.go hmix ?_ | skip); conv => whnf))
      refine CallS.of (Try.call13 _ _) (c_turnE 1 y.F _ (turn_bad e1 e2 (by rw [hbf, Bool.and_false])) hD6) ?_
      rintro e wg ⟨rfl, hD7, kg⟩
      refine ⟨_, rfl, ?_⟩; (first | refine Then.go hmix ?_ | refine Sat.go hmix ?_ | refine ResK.go ?_ | skip); conv => whnf
      have hK7 := hK6.own kg hb0
      have hA9 := hAt hK7
      have d5 := hA9 1 _ rfl
      (repeat ((first | refine Num.i64 (by omega) (by omega) ?_ | refine Num.i32 (by omega) (by omega) ?_ | refine Num.u8 (by omega) (by omega) ?_ | refine Br.tt ?_ | refine Br.ff ?_ | refine Br.not_yes ?_ | refine Br.dec_yes (by omega) ?_ | refine Br.dec_no (by omega) ?_ | refine Br.beq_yes (by omega) ?_ | refine Br.beq_no (by omega) ?_ | refine Br.bne_yes (by omega) ?_ | refine Br.bne_no (by omega) ?_ | refine Draw.text (by decide +kernel) ?_ | refine Idx.nat (by omega) ?_ | refine Idx.int (by omega) (by omega) ?_ | refine Cut.to (by omega) ?_ | refine Cut.from (by omega) (by omega) ?_ | refine Cut.both (by omega) (by omega) ?_ | refine Br.dec_yes (by with_reducible assumption) ?_ | refine Br.dec_no (by with_reducible assumption) ?_ | refine Br.yes (by with_reducible assumption) ?_ | refine Br.no (by with_reducible assumption) ?_ | refine Load.one (by rfl) (by with_reducible assumption) ?_ | refine (?_ : Sat _ _ _ _ _ _ _)); (first | refine Then.go hmix ?_ | refine Sat.go hmix ?_ | skip); conv => whnf))
      refine CallS.of (Try.call17 _ _) (c_sizeE y.F _ (size_bad hbf) hD7) ?_
      rintro e w' ⟨rfl, rfl⟩
      refine ⟨_, rfl, ?_⟩; (first | refine Then.go hmix ?_ | refine Sat.go hmix ?_ | refine ResK.go ?_ | skip); conv => whnf
      (repeat ((first | refine Num.i64 (by omega) (by omega) ?_ | refine Num.i32 (by omega) (by omega) ?_ | refine Num.u8 (by omega) (by omega) ?_ | refine Br.tt ?_ | refine Br.ff ?_ | refine Br.not_yes ?_ | refine Br.dec_yes (by omega) ?_ | refine Br.dec_no (by omega) ?_ | refine Br.beq_yes (by omega) ?_ | refine Br.beq_no (by omega) ?_ | refine Br.bne_yes (by omega) ?_ | refine Br.bne_no (by omega) ?_ | refine Draw.text (by decide +kernel) ?_ | refine Idx.nat (by omega) ?_ | refine Idx.int (by omega) (by omega) ?_ | refine Cut.to (by omega) ?_ | refine Cut.from (by omega) (by omega) ?_ | refine Cut.both (by omega) (by omega) ?_ | refine Br.dec_yes (by with_reducible assumption) ?_ | refine Br.dec_no (by with_reducible assumption) ?_ | refine Br.yes (by with_reducible assumption) ?_ | refine Br.no (by with_reducible assumption) ?_ | refine Load.one (by rfl) (by with_reducible assumption) ?_ | refine (?_ : Sat _ _ _ _ _ _ _)); (first | refine Then.go hmix ?_ | refine Sat.go hmix ?_ | skip); conv => whnf))
      refine CallS.of (Try.call14 _ _) (c_crashNe w1.heap.size D1 _ [] _ hD7 (.inl ⟨_, _, rfl, rfl⟩)) ?_
      rintro e wp ⟨rfl, hE1, kp⟩
      refine ⟨_, rfl, ?_⟩; (first | refine Then.go hmix ?_ | refine Sat.go hmix ?_ | refine ResK.go ?_ | skip); conv => whnf
      have hQ1 := hK7.own kp hb0
      have hdn : (crash D1 []).down = true := crash_down _ _
      generalize crash D1 [] = D2 at *
      refine CallS.of (Try.call19 _ _) (c_copy w1.heap.size D2 _ hE1) ?_
      rintro e wq ⟨rfl, hW1, hE2, kq⟩
      refine ⟨_, rfl, ?_⟩; (first | refine Then.go hmix ?_ | refine Sat.go hmix ?_ | refine ResK.go ?_ | skip); conv => whnf
      have hQ2 := hQ1.trans' kq
      have hltp := hE1.lt
      have hbp : w0.heap.size ≤ wp.heap.size := hQ1.size
      (repeat ((first | refine Num.i64 (by omega) (by omega) ?_ | refine Num.i32 (by omega) (by omega) ?_ | refine Num.u8 (by omega) (by omega) ?_ | refine Br.tt ?_ | refine Br.ff ?_ | refine Br.not_yes ?_ | refine Br.dec_yes (by omega) ?_ | refine Br.dec_no (by omega) ?_ | refine Br.beq_yes (by omega) ?_ | refine Br.beq_no (by omega) ?_ | refine Br.bne_yes (by omega) ?_ | refine Br.bne_no (by omega) ?_ | refine Draw.text (by decide +kernel) ?_ | refine Idx.nat (by omega) ?_ | refine Idx.int (by omega) (by omega) ?_ | refine Cut.to (by omega) ?_ | refine Cut.from (by omega) (by omega) ?_ | refine Cut.both (by omega) (by omega) ?_ | refine Br.dec_yes (by with_reducible assumption) ?_ | refine Br.dec_no (by with_reducible assumption) ?_ | refine Br.yes (by with_reducible assumption) ?_ | refine Br.no (by with_reducible assumption) ?_ | refine Load.one (by rfl) (by with_reducible assumption) ?_ | refine (?_ : Sat _ _ _ _ _ _ _)); (first | refine Then.go hmix ?_ | refine Sat.go hmix ?_ | skip); conv => whnf))
      refine CallS.of (Try.call15 _ _) (c_start wp.heap.size D2 _ hW1) ?_
      rintro e wr1 ⟨rfl, hW2, kr⟩
      refine ⟨_, rfl, ?_⟩; (first | refine Then.go hmix ?_ | refine Sat.go hmix ?_ | refine ResK.go ?_ | skip); conv => whnf
      have hQ3 := hQ2.own kr hbp
      have hE3 := hE2.otherD kr (by omega) hW1.sh
      have hA10 := hAt hQ3
      have g1 := hA10 1 _ rfl
      (repeat ((first | refine Num.i64 (by omega) (by omega) ?_ | refine Num.i32 (by omega) (by omega) ?_ | refine Num.u8 (by omega) (by omega) ?_ | refine Br.tt ?_ | refine Br.ff ?_ | refine Br.not_yes ?_ | refine Br.dec_yes (by omega) ?_ | refine Br.dec_no (by omega) ?_ | refine Br.beq_yes (by omega) ?_ | refine Br.beq_no (by omega) ?_ | refine Br.bne_yes (by omega) ?_ | refine Br.bne_no (by omega) ?_ | refine Draw.text (by decide +kernel) ?_ | refine Idx.nat (by omega) ?_ | refine Idx.int (by omega) (by omega) ?_ | refine Cut.to (by omega) ?_ | refine Cut.from (by omega) (by omega) ?_ | refine Cut.both (by omega) (by omega) ?_ | refine Br.dec_yes (by with_reducible assumption) ?_ | refine Br.dec_no (by with_reducible assumption) ?_ | refine Br.yes (by with_reducible assumption) ?_ | refine Br.no (by with_reducible assumption) ?_ | refine Load.one (by rfl) (by with_reducible assumption) ?_ | refine (?_ : Sat _ _ _ _ _ _ _)); (first | refine Then.go hmix ?_ | refine Sat.go hmix ?_ | skip); conv => whnf))
      refine CallS.of (Try.call16 _ _) (c_readE y.F _ (read_dn y.F hdn) hE3) ?_
      rintro e ws ⟨rfl, ks⟩
      refine ⟨_, rfl, ?_⟩; (first | refine Then.go hmix ?_ | refine Sat.go hmix ?_ | refine ResK.go ?_ | skip); conv => whnf
      have hQ4 := hQ3.trans' ks
      have hE4 := hE3.keep0 ks
      have hW4 := hW2.keep0 ks
      (repeat ((first | refine Num.i64 (by omega) (by omega) ?_ | refine Num.i32 (by omega) (by omega) ?_ | refine Num.u8 (by omega) (by omega) ?_ | refine Br.tt ?_ | refine Br.ff ?_ | refine Br.not_yes ?_ | refine Br.dec_yes (by omega) ?_ | refine Br.dec_no (by omega) ?_ | refine Br.beq_yes (by omega) ?_ | refine Br.beq_no (by omega) ?_ | refine Br.bne_yes (by omega) ?_ | refine Br.bne_no (by omega) ?_ | refine Draw.text (by decide +kernel) ?_ | refine Idx.nat (by omega) ?_ | refine Idx.int (by omega) (by omega) ?_ | refine Cut.to (by omega) ?_ | refine Cut.from (by omega) (by omega) ?_ | refine Cut.both (by omega) (by omega) ?_ | refine Br.dec_yes (by with_reducible assumption) ?_ | refine Br.dec_no (by with_reducible assumption) ?_ | refine Br.yes (by with_reducible assumption) ?_ | refine Br.no (by with_reducible assumption) ?_ | refine Load.one (by rfl) (by with_reducible assumption) ?_ | refine (?_ : Sat _ _ _ _ _ _ _)); (first | refine Then.go hmix ?_ | refine Sat.go hmix ?_ | skip); conv => whnf))
      refine RunV.of (build_two 1 1 ws) ?_
      (first | refine Then.go hmix ?_ | refine Sat.go hmix ?_ | refine ResK.go ?_ | skip); conv => whnf
      have hE5 := hE4.alloc (.cells #[.int .i64 1, .int .i64 1] 3)
      have hW5 := hW4.alloc (.cells #[.int .i64 1, .int .i64 1] 3)
      have hQ5 := hQ4.alloc (.cells #[.int .i64 1, .int .i64 1] 3)
      refine CallS.of (Try.call14 _ _) (c_crashE _ [1, 1] _ (crash_dn _ hdn) hE5 (ints_twoN _ ws 1 1 hE4.lt)) ?_
      rintro e wt ⟨rfl, hE6, kt⟩
      refine ⟨_, rfl, ?_⟩; (first | refine Then.go hmix ?_ | refine Sat.go hmix ?_ | refine ResK.go ?_ | skip); conv => whnf
      have hQ6 := hQ5.own kt hb0
      have hW6 := hW5.otherD kt (by omega) hE5.sh
      have hA11 := hAt hQ6
      have q1 := hA11 1 _ rfl; have q4 := hA11 4 _ rfl
      (repeat ((first | refine Num.i64 (by omega) (by omega) ?_ | refine Num.i32 (by omega) (by omega) ?_ | refine Num.u8 (by omega) (by omega) ?_ | refine Br.tt ?_ | refine Br.ff ?_ | refine Br.not_yes ?_ | refine Br.dec_yes (by omega) ?_ | refine Br.dec_no (by omega) ?_ | refine Br.beq_yes (by omega) ?_ | refine Br.beq_no (by omega) ?_ | refine Br.bne_yes (by omega) ?_ | refine Br.bne_no (by omega) ?_ | refine Draw.text (by decide +kernel) ?_ | refine Idx.nat (by omega) ?_ | refine Idx.int (by omega) (by omega) ?_ | refine Cut.to (by omega) ?_ | refine Cut.from (by omega) (by omega) ?_ | refine Cut.both (by omega) (by omega) ?_ | refine Br.dec_yes (by with_reducible assumption) ?_ | refine Br.dec_no (by with_reducible assumption) ?_ | refine Br.yes (by with_reducible assumption) ?_ | refine Br.no (by with_reducible assumption) ?_ | refine Load.one (by rfl) (by with_reducible assumption) ?_ | refine (?_ : Sat _ _ _ _ _ _ _)); (first | refine Then.go hmix ?_ | refine Sat.go hmix ?_ | skip); conv => whnf))
      refine CallS.of (Try.call11 _ _) (c_appendE y.F y.S _ (app_dn y.F y.S hdn) hE6 (by omega)) ?_
      rintro e wu ⟨rfl, hE7, ku⟩
      refine ⟨_, rfl, ?_⟩; (first | refine Then.go hmix ?_ | refine Sat.go hmix ?_ | refine ResK.go ?_ | skip); conv => whnf
      have hQ7 := hQ6.own ku hb0
      have hW7 := hW6.otherD ku (by omega) hE6.sh
      have hA12 := hAt hQ7
      have r1 := hA12 1 _ rfl
      (repeat ((first | refine Num.i64 (by omega) (by omega) ?_ | refine Num.i32 (by omega) (by omega) ?_ | refine Num.u8 (by omega) (by omega) ?_ | refine Br.tt ?_ | refine Br.ff ?_ | refine Br.not_yes ?_ | refine Br.dec_yes (by omega) ?_ | refine Br.dec_no (by omega) ?_ | refine Br.beq_yes (by omega) ?_ | refine Br.beq_no (by omega) ?_ | refine Br.bne_yes (by omega) ?_ | refine Br.bne_no (by omega) ?_ | refine Draw.text (by decide +kernel) ?_ | refine Idx.nat (by omega) ?_ | refine Idx.int (by omega) (by omega) ?_ | refine Cut.to (by omega) ?_ | refine Cut.from (by omega) (by omega) ?_ | refine Cut.both (by omega) (by omega) ?_ | refine Br.dec_yes (by with_reducible assumption) ?_ | refine Br.dec_no (by with_reducible assumption) ?_ | refine Br.yes (by with_reducible assumption) ?_ | refine Br.no (by with_reducible assumption) ?_ | refine Load.one (by rfl) (by with_reducible assumption) ?_ | refine (?_ : Sat _ _ _ _ _ _ _)); (first | refine Then.go hmix ?_ | refine Sat.go hmix ?_ | skip); conv => whnf))
      refine CallS.of (Try.call12 _ _) (c_flushE y.F _ (flush_dn y.F hdn) hE7) ?_
      rintro e wv ⟨rfl, hE8, kv⟩
      refine ⟨_, rfl, ?_⟩; (first | refine Then.go hmix ?_ | refine Sat.go hmix ?_ | refine ResK.go ?_ | skip); conv => whnf
      have hQ8 := hQ7.own kv hb0
      have hW8 := hW7.otherD kv (by omega) hE7.sh
      have hA13 := hAt hQ8
      have s1 := hA13 1 _ rfl; have s3 := hA13 3 _ rfl
      (repeat ((first | refine Num.i64 (by omega) (by omega) ?_ | refine Num.i32 (by omega) (by omega) ?_ | refine Num.u8 (by omega) (by omega) ?_ | refine Br.tt ?_ | refine Br.ff ?_ | refine Br.not_yes ?_ | refine Br.dec_yes (by omega) ?_ | refine Br.dec_no (by omega) ?_ | refine Br.beq_yes (by omega) ?_ | refine Br.beq_no (by omega) ?_ | refine Br.bne_yes (by omega) ?_ | refine Br.bne_no (by omega) ?_ | refine Draw.text (by decide +kernel) ?_ | refine Idx.nat (by omega) ?_ | refine Idx.int (by omega) (by omega) ?_ | refine Cut.to (by omega) ?_ | refine Cut.from (by omega) (by omega) ?_ | refine Cut.both (by omega) (by omega) ?_ | refine Br.dec_yes (by with_reducible assumption) ?_ | refine Br.dec_no (by with_reducible assumption) ?_ | refine Br.yes (by with_reducible assumption) ?_ | refine Br.no (by with_reducible assumption) ?_ | refine Load.one (by rfl) (by with_reducible assumption) ?_ | refine (?_ : Sat _ _ _ _ _ _ _)); (first | refine Then.go hmix ?_ | refine Sat.go hmix ?_ | skip); conv => whnf))
      refine CallS.of (Try.call33 _ _) (c_cutE y.F y.N _ (cut_dn y.F y.N hdn) hE8) ?_
      rintro e wx ⟨rfl, hE9, kx⟩
      refine ⟨_, rfl, ?_⟩; (first | refine Then.go hmix ?_ | refine Sat.go hmix ?_ | refine ResK.go ?_ | skip); conv => whnf
      have hQ9 := hQ8.own kx hb0
      have hW9 := hW8.otherD kx (by omega) hE8.sh
      have hA14 := hAt hQ9
      have t1 := hA14 1 _ rfl; have t2 := hA14 2 _ rfl
      (repeat ((first | refine Num.i64 (by omega) (by omega) ?_ | refine Num.i32 (by omega) (by omega) ?_ | refine Num.u8 (by omega) (by omega) ?_ | refine Br.tt ?_ | refine Br.ff ?_ | refine Br.not_yes ?_ | refine Br.dec_yes (by omega) ?_ | refine Br.dec_no (by omega) ?_ | refine Br.beq_yes (by omega) ?_ | refine Br.beq_no (by omega) ?_ | refine Br.bne_yes (by omega) ?_ | refine Br.bne_no (by omega) ?_ | refine Draw.text (by decide +kernel) ?_ | refine Idx.nat (by omega) ?_ | refine Idx.int (by omega) (by omega) ?_ | refine Cut.to (by omega) ?_ | refine Cut.from (by omega) (by omega) ?_ | refine Cut.both (by omega) (by omega) ?_ | refine Br.dec_yes (by with_reducible assumption) ?_ | refine Br.dec_no (by with_reducible assumption) ?_ | refine Br.yes (by with_reducible assumption) ?_ | refine Br.no (by with_reducible assumption) ?_ | refine Load.one (by rfl) (by with_reducible assumption) ?_ | refine (?_ : Sat _ _ _ _ _ _ _)); (first | refine Then.go hmix ?_ | refine Sat.go hmix ?_ | skip); conv => whnf))
      refine CallS.of (Try.call13 _ _) (c_turnE y.F y.G _ (turn_dn y.F y.G hdn) hE9) ?_
      rintro e wy ⟨rfl, hE10, ky⟩
      refine ⟨_, rfl, ?_⟩; (first | refine Then.go hmix ?_ | refine Sat.go hmix ?_ | refine ResK.go ?_ | skip); conv => whnf
      have hQ10 := hQ9.own ky hb0
      have hW10 := hW9.otherD ky (by omega) hE9.sh
      (repeat ((first | refine Num.i64 (by omega) (by omega) ?_ | refine Num.i32 (by omega) (by omega) ?_ | refine Num.u8 (by omega) (by omega) ?_ | refine Br.tt ?_ | refine Br.ff ?_ | refine Br.not_yes ?_ | refine Br.dec_yes (by omega) ?_ | refine Br.dec_no (by omega) ?_ | refine Br.beq_yes (by omega) ?_ | refine Br.beq_no (by omega) ?_ | refine Br.bne_yes (by omega) ?_ | refine Br.bne_no (by omega) ?_ | refine Draw.text (by decide +kernel) ?_ | refine Idx.nat (by omega) ?_ | refine Idx.int (by omega) (by omega) ?_ | refine Cut.to (by omega) ?_ | refine Cut.from (by omega) (by omega) ?_ | refine Cut.both (by omega) (by omega) ?_ | refine Br.dec_yes (by with_reducible assumption) ?_ | refine Br.dec_no (by with_reducible assumption) ?_ | refine Br.yes (by with_reducible assumption) ?_ | refine Br.no (by with_reducible assumption) ?_ | refine Load.one (by rfl) (by with_reducible assumption) ?_ | refine (?_ : Sat _ _ _ _ _ _ _)); (first | refine Then.go hmix ?_ | refine Sat.go hmix ?_ | skip); conv => whnf))
      refine CallS.of (Try.call21 _ _) (c_downE _ hdn hE10) ?_
      rintro e w' ⟨rfl, rfl⟩
      refine ⟨_, rfl, ?_⟩; (first | refine Then.go hmix ?_ | refine Sat.go hmix ?_ | refine ResK.go ?_ | skip); conv => whnf
      (repeat ((first | refine Num.i64 (by omega) (by omega) ?_ | refine Num.i32 (by omega) (by omega) ?_ | refine Num.u8 (by omega) (by omega) ?_ | refine Br.tt ?_ | refine Br.ff ?_ | refine Br.not_yes ?_ | refine Br.dec_yes (by omega) ?_ | refine Br.dec_no (by omega) ?_ | refine Br.beq_yes (by omega) ?_ | refine Br.beq_no (by omega) ?_ | refine Br.bne_yes (by omega) ?_ | refine Br.bne_no (by omega) ?_ | refine Draw.text (by decide +kernel) ?_ | refine Idx.nat (by omega) ?_ | refine Idx.int (by omega) (by omega) ?_ | refine Cut.to (by omega) ?_ | refine Cut.from (by omega) (by omega) ?_ | refine Cut.both (by omega) (by omega) ?_ | refine Br.dec_yes (by with_reducible assumption) ?_ | refine Br.dec_no (by with_reducible assumption) ?_ | refine Br.yes (by with_reducible assumption) ?_ | refine Br.no (by with_reducible assumption) ?_ | refine Load.one (by rfl) (by with_reducible assumption) ?_ | refine (?_ : Sat _ _ _ _ _ _ _)); (first | refine Then.go hmix ?_ | refine Sat.go hmix ?_ | skip); conv => whnf))
      refine CallS.of (Try.call15 _ _) (c_start w1.heap.size D2 _ hE10) ?_
      rintro e wz ⟨rfl, hE11, kz⟩
      refine ⟨_, rfl, ?_⟩; (first | refine Then.go hmix ?_ | refine Sat.go hmix ?_ | refine ResK.go ?_ | skip); conv => whnf
      have hQ11 := hQ10.own kz hb0
      have hW11 := hW10.otherD kz (by omega) hE10.sh
      refine Loop.intro (ι := Nat) (fun i => [(5, .bool true), (6, .pointer (some ⟨w1.heap.size, 0, none⟩)), (8, .pointer (some ⟨wp.heap.size, 0, none⟩)), (11, .int .i64 i)])
        (fun i wr' => Keeps w0 wr' none_ ∧ i ≤ 8 ∧ DiskAt wr' w1.heap.size (start0 D2) ∧ DiskAt wr' wp.heap.size (start0 D2)) (fun i => 8 - i) 0 ⟨rfl, rfl, rfl, rfl, trivial⟩ ⟨hQ11, Nat.zero_le _, hE11, hW11⟩ ?_
      rintro f g2 wr2 ⟨hKf, hf8, hDf, hWf⟩
      (first | refine Then.go hmix ?_ | refine Sat.go hmix ?_ | refine ResK.go ?_ | skip); conv => whnf
      by_cases hf : f < 8
      · (repeat ((first | refine Num.i64 (by omega) (by omega) ?_ | refine Num.i32 (by omega) (by omega) ?_ | refine Num.u8 (by omega) (by omega) ?_ | refine Br.tt ?_ | refine Br.ff ?_ | refine Br.not_yes ?_ | refine Br.dec_yes (by omega) ?_ | refine Br.dec_no (by omega) ?_ | refine Br.beq_yes (by omega) ?_ | refine Br.beq_no (by omega) ?_ | refine Br.bne_yes (by omega) ?_ | refine Br.bne_no (by omega) ?_ | refine Draw.text (by decide +kernel) ?_ | refine Idx.nat (by omega) ?_ | refine Idx.int (by omega) (by omega) ?_ | refine Cut.to (by omega) ?_ | refine Cut.from (by omega) (by omega) ?_ | refine Cut.both (by omega) (by omega) ?_ | refine Br.dec_yes (by with_reducible assumption) ?_ | refine Br.dec_no (by with_reducible assumption) ?_ | refine Br.yes (by with_reducible assumption) ?_ | refine Br.no (by with_reducible assumption) ?_ | refine Load.one (by rfl) (by with_reducible assumption) ?_ | refine (?_ : Sat _ _ _ _ _ _ _)); (first | refine Then.go hmix ?_ | refine Sat.go hmix ?_ | skip); conv => whnf))
        refine CallS.of (Try.call16 _ _) (c_read w1.heap.size (start0 D2) f _ hDf) ?_
        rintro e wd2 ⟨rfl, kd2⟩
        rw [read_ok (D := start0 D2) rfl (by omega) (by omega), Int.toNat_natCast]
        refine ⟨_, rfl, ?_⟩; (first | refine Then.go hmix ?_ | refine Sat.go hmix ?_ | refine ResK.go ?_ | skip); conv => whnf
        (repeat ((first | refine Num.i64 (by omega) (by omega) ?_ | refine Num.i32 (by omega) (by omega) ?_ | refine Num.u8 (by omega) (by omega) ?_ | refine Br.tt ?_ | refine Br.ff ?_ | refine Br.not_yes ?_ | refine Br.dec_yes (by omega) ?_ | refine Br.dec_no (by omega) ?_ | refine Br.beq_yes (by omega) ?_ | refine Br.beq_no (by omega) ?_ | refine Br.bne_yes (by omega) ?_ | refine Br.bne_no (by omega) ?_ | refine Draw.text (by decide +kernel) ?_ | refine Idx.nat (by omega) ?_ | refine Idx.int (by omega) (by omega) ?_ | refine Cut.to (by omega) ?_ | refine Cut.from (by omega) (by omega) ?_ | refine Cut.both (by omega) (by omega) ?_ | refine Br.dec_yes (by with_reducible assumption) ?_ | refine Br.dec_no (by with_reducible assumption) ?_ | refine Br.yes (by with_reducible assumption) ?_ | refine Br.no (by with_reducible assumption) ?_ | refine Load.one (by rfl) (by with_reducible assumption) ?_ | refine (?_ : Sat _ _ _ _ _ _ _)); (first | refine Then.go hmix ?_ | refine Sat.go hmix ?_ | skip); conv => whnf))
        refine CallS.of (Try.call16 _ _) (c_read wp.heap.size (start0 D2) f _ (hWf.keep0 kd2)) ?_
        rintro e we2 ⟨rfl, ke2⟩
        rw [read_ok (D := start0 D2) rfl (by omega) (by omega), Int.toNat_natCast]
        refine ⟨_, rfl, ?_⟩; (first | refine Then.go hmix ?_ | refine Sat.go hmix ?_ | refine ResK.go ?_ | skip); conv => whnf
        (repeat ((first | refine Num.i64 (by omega) (by omega) ?_ | refine Num.i32 (by omega) (by omega) ?_ | refine Num.u8 (by omega) (by omega) ?_ | refine Br.tt ?_ | refine Br.ff ?_ | refine Br.not_yes ?_ | refine Br.dec_yes (by omega) ?_ | refine Br.dec_no (by omega) ?_ | refine Br.beq_yes (by omega) ?_ | refine Br.beq_no (by omega) ?_ | refine Br.bne_yes (by omega) ?_ | refine Br.bne_no (by omega) ?_ | refine Draw.text (by decide +kernel) ?_ | refine Idx.nat (by omega) ?_ | refine Idx.int (by omega) (by omega) ?_ | refine Cut.to (by omega) ?_ | refine Cut.from (by omega) (by omega) ?_ | refine Cut.both (by omega) (by omega) ?_ | refine Br.dec_yes (by with_reducible assumption) ?_ | refine Br.dec_no (by with_reducible assumption) ?_ | refine Br.yes (by with_reducible assumption) ?_ | refine Br.no (by with_reducible assumption) ?_ | refine Load.one (by rfl) (by with_reducible assumption) ?_ | refine (?_ : Sat _ _ _ _ _ _ _)); (first | refine Then.go hmix ?_ | refine Sat.go hmix ?_ | skip); conv => whnf))
        refine Br.dec_yes (by rfl) ?_
        (first | refine Then.go hmix ?_ | refine Sat.go hmix ?_ | refine ResK.go ?_ | skip); conv => whnf
        (repeat ((first | refine Num.i64 (by omega) (by omega) ?_ | refine Num.i32 (by omega) (by omega) ?_ | refine Num.u8 (by omega) (by omega) ?_ | refine Br.tt ?_ | refine Br.ff ?_ | refine Br.not_yes ?_ | refine Br.dec_yes (by omega) ?_ | refine Br.dec_no (by omega) ?_ | refine Br.beq_yes (by omega) ?_ | refine Br.beq_no (by omega) ?_ | refine Br.bne_yes (by omega) ?_ | refine Br.bne_no (by omega) ?_ | refine Draw.text (by decide +kernel) ?_ | refine Idx.nat (by omega) ?_ | refine Idx.int (by omega) (by omega) ?_ | refine Cut.to (by omega) ?_ | refine Cut.from (by omega) (by omega) ?_ | refine Cut.both (by omega) (by omega) ?_ | refine Br.dec_yes (by with_reducible assumption) ?_ | refine Br.dec_no (by with_reducible assumption) ?_ | refine Br.yes (by with_reducible assumption) ?_ | refine Br.no (by with_reducible assumption) ?_ | refine Load.one (by rfl) (by with_reducible assumption) ?_ | refine (?_ : Sat _ _ _ _ _ _ _)); (first | refine Then.go hmix ?_ | refine Sat.go hmix ?_ | skip); conv => whnf))
        exact ⟨f + 1, ⟨rfl, rfl, rfl, rfl, trivial⟩, ⟨(hKf.trans' kd2).trans' ke2, by omega, (hDf.keep0 kd2).keep0 ke2, (hWf.keep0 kd2).keep0 ke2⟩, by show 8 - (f + 1) < 8 - f; omega⟩
      · (repeat ((first | refine Num.i64 (by omega) (by omega) ?_ | refine Num.i32 (by omega) (by omega) ?_ | refine Num.u8 (by omega) (by omega) ?_ | refine Br.tt ?_ | refine Br.ff ?_ | refine Br.not_yes ?_ | refine Br.dec_yes (by omega) ?_ | refine Br.dec_no (by omega) ?_ | refine Br.beq_yes (by omega) ?_ | refine Br.beq_no (by omega) ?_ | refine Br.bne_yes (by omega) ?_ | refine Br.bne_no (by omega) ?_ | refine Draw.text (by decide +kernel) ?_ | refine Idx.nat (by omega) ?_ | refine Idx.int (by omega) (by omega) ?_ | refine Cut.to (by omega) ?_ | refine Cut.from (by omega) (by omega) ?_ | refine Cut.both (by omega) (by omega) ?_ | refine Br.dec_yes (by with_reducible assumption) ?_ | refine Br.dec_no (by with_reducible assumption) ?_ | refine Br.yes (by with_reducible assumption) ?_ | refine Br.no (by with_reducible assumption) ?_ | refine Load.one (by rfl) (by with_reducible assumption) ?_ | refine (?_ : Sat _ _ _ _ _ _ _)); (first | refine Then.go hmix ?_ | refine Sat.go hmix ?_ | skip); conv => whnf))
        refine CallS.of (Try.call21 _ _) (c_downE (x := false) _ rfl hDf) ?_
        rintro e w' ⟨rfl, rfl⟩
        refine ⟨_, rfl, ?_⟩; (first | refine Then.go hmix ?_ | refine Sat.go hmix ?_ | refine ResK.go ?_ | skip); conv => whnf
        (repeat ((first | refine Num.i64 (by omega) (by omega) ?_ | refine Num.i32 (by omega) (by omega) ?_ | refine Num.u8 (by omega) (by omega) ?_ | refine Br.tt ?_ | refine Br.ff ?_ | refine Br.not_yes ?_ | refine Br.dec_yes (by omega) ?_ | refine Br.dec_no (by omega) ?_ | refine Br.beq_yes (by omega) ?_ | refine Br.beq_no (by omega) ?_ | refine Br.bne_yes (by omega) ?_ | refine Br.bne_no (by omega) ?_ | refine Draw.text (by decide +kernel) ?_ | refine Idx.nat (by omega) ?_ | refine Idx.int (by omega) (by omega) ?_ | refine Cut.to (by omega) ?_ | refine Cut.from (by omega) (by omega) ?_ | refine Cut.both (by omega) (by omega) ?_ | refine Br.dec_yes (by with_reducible assumption) ?_ | refine Br.dec_no (by with_reducible assumption) ?_ | refine Br.yes (by with_reducible assumption) ?_ | refine Br.no (by with_reducible assumption) ?_ | refine Load.one (by rfl) (by with_reducible assumption) ?_ | refine (?_ : Sat _ _ _ _ _ _ _)); (first | refine Then.go hmix ?_ | refine Sat.go hmix ?_ | skip); conv => whnf))
        exact ⟨rfl, hK0.trans' hKf⟩
    (repeat ((first | refine Num.i64 (by omega) (by omega) ?_ | refine Num.i32 (by omega) (by omega) ?_ | refine Num.u8 (by omega) (by omega) ?_ | refine Br.tt ?_ | refine Br.ff ?_ | refine Br.not_yes ?_ | refine Br.dec_yes (by omega) ?_ | refine Br.dec_no (by omega) ?_ | refine Br.beq_yes (by omega) ?_ | refine Br.beq_no (by omega) ?_ | refine Br.bne_yes (by omega) ?_ | refine Br.bne_no (by omega) ?_ | refine Draw.text (by decide +kernel) ?_ | refine Idx.nat (by omega) ?_ | refine Idx.int (by omega) (by omega) ?_ | refine Cut.to (by omega) ?_ | refine Cut.from (by omega) (by omega) ?_ | refine Cut.both (by omega) (by omega) ?_ | refine Br.dec_yes (by with_reducible assumption) ?_ | refine Br.dec_no (by with_reducible assumption) ?_ | refine Br.yes (by with_reducible assumption) ?_ | refine Br.no (by with_reducible assumption) ?_ | refine Load.one (by rfl) (by with_reducible assumption) ?_ | refine (?_ : Sat _ _ _ _ _ _ _)); (first | refine Then.go hmix ?_ | refine Sat.go hmix ?_ | skip); conv => whnf))
    refine CallS.of (Try.call14 _ _) (c_crashNe w1.heap.size D1 _ [] _ hD2 (.inl ⟨_, _, rfl, rfl⟩)) ?_
    rintro e wp ⟨rfl, hE1, kp⟩
    refine ⟨_, rfl, ?_⟩; (first | refine Then.go hmix ?_ | refine Sat.go hmix ?_ | refine ResK.go ?_ | skip); conv => whnf
    have hQ1 := hK2.own kp hb0
    have hdn : (crash D1 []).down = true := crash_down _ _
    generalize crash D1 [] = D2 at *
    refine CallS.of (Try.call19 _ _) (c_copy w1.heap.size D2 _ hE1) ?_
    rintro e wq ⟨rfl, hW1, hE2, kq⟩
    refine ⟨_, rfl, ?_⟩; (first | refine Then.go hmix ?_ | refine Sat.go hmix ?_ | refine ResK.go ?_ | skip); conv => whnf
    have hQ2 := hQ1.trans' kq
    have hltp := hE1.lt
    have hbp : w0.heap.size ≤ wp.heap.size := hQ1.size
    (repeat ((first | refine Num.i64 (by omega) (by omega) ?_ | refine Num.i32 (by omega) (by omega) ?_ | refine Num.u8 (by omega) (by omega) ?_ | refine Br.tt ?_ | refine Br.ff ?_ | refine Br.not_yes ?_ | refine Br.dec_yes (by omega) ?_ | refine Br.dec_no (by omega) ?_ | refine Br.beq_yes (by omega) ?_ | refine Br.beq_no (by omega) ?_ | refine Br.bne_yes (by omega) ?_ | refine Br.bne_no (by omega) ?_ | refine Draw.text (by decide +kernel) ?_ | refine Idx.nat (by omega) ?_ | refine Idx.int (by omega) (by omega) ?_ | refine Cut.to (by omega) ?_ | refine Cut.from (by omega) (by omega) ?_ | refine Cut.both (by omega) (by omega) ?_ | refine Br.dec_yes (by with_reducible assumption) ?_ | refine Br.dec_no (by with_reducible assumption) ?_ | refine Br.yes (by with_reducible assumption) ?_ | refine Br.no (by with_reducible assumption) ?_ | refine Load.one (by rfl) (by with_reducible assumption) ?_ | refine (?_ : Sat _ _ _ _ _ _ _)); (first | refine Then.go hmix ?_ | refine Sat.go hmix ?_ | skip); conv => whnf))
    refine CallS.of (Try.call15 _ _) (c_start wp.heap.size D2 _ hW1) ?_
    rintro e wr1 ⟨rfl, hW2, kr⟩
    refine ⟨_, rfl, ?_⟩; (first | refine Then.go hmix ?_ | refine Sat.go hmix ?_ | refine ResK.go ?_ | skip); conv => whnf
    have hQ3 := hQ2.own kr hbp
    have hE3 := hE2.otherD kr (by omega) hW1.sh
    have hA10 := hAt hQ3
    have g1 := hA10 1 _ rfl
    (repeat ((first | refine Num.i64 (by omega) (by omega) ?_ | refine Num.i32 (by omega) (by omega) ?_ | refine Num.u8 (by omega) (by omega) ?_ | refine Br.tt ?_ | refine Br.ff ?_ | refine Br.not_yes ?_ | refine Br.dec_yes (by omega) ?_ | refine Br.dec_no (by omega) ?_ | refine Br.beq_yes (by omega) ?_ | refine Br.beq_no (by omega) ?_ | refine Br.bne_yes (by omega) ?_ | refine Br.bne_no (by omega) ?_ | refine Draw.text (by decide +kernel) ?_ | refine Idx.nat (by omega) ?_ | refine Idx.int (by omega) (by omega) ?_ | refine Cut.to (by omega) ?_ | refine Cut.from (by omega) (by omega) ?_ | refine Cut.both (by omega) (by omega) ?_ | refine Br.dec_yes (by with_reducible assumption) ?_ | refine Br.dec_no (by with_reducible assumption) ?_ | refine Br.yes (by with_reducible assumption) ?_ | refine Br.no (by with_reducible assumption) ?_ | refine Load.one (by rfl) (by with_reducible assumption) ?_ | refine (?_ : Sat _ _ _ _ _ _ _)); (first | refine Then.go hmix ?_ | refine Sat.go hmix ?_ | skip); conv => whnf))
    refine CallS.of (Try.call16 _ _) (c_readE y.F _ (read_dn y.F hdn) hE3) ?_
    rintro e ws ⟨rfl, ks⟩
    refine ⟨_, rfl, ?_⟩; (first | refine Then.go hmix ?_ | refine Sat.go hmix ?_ | refine ResK.go ?_ | skip); conv => whnf
    have hQ4 := hQ3.trans' ks
    have hE4 := hE3.keep0 ks
    have hW4 := hW2.keep0 ks
    (repeat ((first | refine Num.i64 (by omega) (by omega) ?_ | refine Num.i32 (by omega) (by omega) ?_ | refine Num.u8 (by omega) (by omega) ?_ | refine Br.tt ?_ | refine Br.ff ?_ | refine Br.not_yes ?_ | refine Br.dec_yes (by omega) ?_ | refine Br.dec_no (by omega) ?_ | refine Br.beq_yes (by omega) ?_ | refine Br.beq_no (by omega) ?_ | refine Br.bne_yes (by omega) ?_ | refine Br.bne_no (by omega) ?_ | refine Draw.text (by decide +kernel) ?_ | refine Idx.nat (by omega) ?_ | refine Idx.int (by omega) (by omega) ?_ | refine Cut.to (by omega) ?_ | refine Cut.from (by omega) (by omega) ?_ | refine Cut.both (by omega) (by omega) ?_ | refine Br.dec_yes (by with_reducible assumption) ?_ | refine Br.dec_no (by with_reducible assumption) ?_ | refine Br.yes (by with_reducible assumption) ?_ | refine Br.no (by with_reducible assumption) ?_ | refine Load.one (by rfl) (by with_reducible assumption) ?_ | refine (?_ : Sat _ _ _ _ _ _ _)); (first | refine Then.go hmix ?_ | refine Sat.go hmix ?_ | skip); conv => whnf))
    refine RunV.of (build_two 1 1 ws) ?_
    (first | refine Then.go hmix ?_ | refine Sat.go hmix ?_ | refine ResK.go ?_ | skip); conv => whnf
    have hE5 := hE4.alloc (.cells #[.int .i64 1, .int .i64 1] 3)
    have hW5 := hW4.alloc (.cells #[.int .i64 1, .int .i64 1] 3)
    have hQ5 := hQ4.alloc (.cells #[.int .i64 1, .int .i64 1] 3)
    refine CallS.of (Try.call14 _ _) (c_crashE _ [1, 1] _ (crash_dn _ hdn) hE5 (ints_twoN _ ws 1 1 hE4.lt)) ?_
    rintro e wt ⟨rfl, hE6, kt⟩
    refine ⟨_, rfl, ?_⟩; (first | refine Then.go hmix ?_ | refine Sat.go hmix ?_ | refine ResK.go ?_ | skip); conv => whnf
    have hQ6 := hQ5.own kt hb0
    have hW6 := hW5.otherD kt (by omega) hE5.sh
    have hA11 := hAt hQ6
    have q1 := hA11 1 _ rfl; have q4 := hA11 4 _ rfl
    (repeat ((first | refine Num.i64 (by omega) (by omega) ?_ | refine Num.i32 (by omega) (by omega) ?_ | refine Num.u8 (by omega) (by omega) ?_ | refine Br.tt ?_ | refine Br.ff ?_ | refine Br.not_yes ?_ | refine Br.dec_yes (by omega) ?_ | refine Br.dec_no (by omega) ?_ | refine Br.beq_yes (by omega) ?_ | refine Br.beq_no (by omega) ?_ | refine Br.bne_yes (by omega) ?_ | refine Br.bne_no (by omega) ?_ | refine Draw.text (by decide +kernel) ?_ | refine Idx.nat (by omega) ?_ | refine Idx.int (by omega) (by omega) ?_ | refine Cut.to (by omega) ?_ | refine Cut.from (by omega) (by omega) ?_ | refine Cut.both (by omega) (by omega) ?_ | refine Br.dec_yes (by with_reducible assumption) ?_ | refine Br.dec_no (by with_reducible assumption) ?_ | refine Br.yes (by with_reducible assumption) ?_ | refine Br.no (by with_reducible assumption) ?_ | refine Load.one (by rfl) (by with_reducible assumption) ?_ | refine (?_ : Sat _ _ _ _ _ _ _)); (first | refine Then.go hmix ?_ | refine Sat.go hmix ?_ | skip); conv => whnf))
    refine CallS.of (Try.call11 _ _) (c_appendE y.F y.S _ (app_dn y.F y.S hdn) hE6 (by omega)) ?_
    rintro e wu ⟨rfl, hE7, ku⟩
    refine ⟨_, rfl, ?_⟩; (first | refine Then.go hmix ?_ | refine Sat.go hmix ?_ | refine ResK.go ?_ | skip); conv => whnf
    have hQ7 := hQ6.own ku hb0
    have hW7 := hW6.otherD ku (by omega) hE6.sh
    have hA12 := hAt hQ7
    have r1 := hA12 1 _ rfl
    (repeat ((first | refine Num.i64 (by omega) (by omega) ?_ | refine Num.i32 (by omega) (by omega) ?_ | refine Num.u8 (by omega) (by omega) ?_ | refine Br.tt ?_ | refine Br.ff ?_ | refine Br.not_yes ?_ | refine Br.dec_yes (by omega) ?_ | refine Br.dec_no (by omega) ?_ | refine Br.beq_yes (by omega) ?_ | refine Br.beq_no (by omega) ?_ | refine Br.bne_yes (by omega) ?_ | refine Br.bne_no (by omega) ?_ | refine Draw.text (by decide +kernel) ?_ | refine Idx.nat (by omega) ?_ | refine Idx.int (by omega) (by omega) ?_ | refine Cut.to (by omega) ?_ | refine Cut.from (by omega) (by omega) ?_ | refine Cut.both (by omega) (by omega) ?_ | refine Br.dec_yes (by with_reducible assumption) ?_ | refine Br.dec_no (by with_reducible assumption) ?_ | refine Br.yes (by with_reducible assumption) ?_ | refine Br.no (by with_reducible assumption) ?_ | refine Load.one (by rfl) (by with_reducible assumption) ?_ | refine (?_ : Sat _ _ _ _ _ _ _)); (first | refine Then.go hmix ?_ | refine Sat.go hmix ?_ | skip); conv => whnf))
    refine CallS.of (Try.call12 _ _) (c_flushE y.F _ (flush_dn y.F hdn) hE7) ?_
    rintro e wv ⟨rfl, hE8, kv⟩
    refine ⟨_, rfl, ?_⟩; (first | refine Then.go hmix ?_ | refine Sat.go hmix ?_ | refine ResK.go ?_ | skip); conv => whnf
    have hQ8 := hQ7.own kv hb0
    have hW8 := hW7.otherD kv (by omega) hE7.sh
    have hA13 := hAt hQ8
    have s1 := hA13 1 _ rfl; have s3 := hA13 3 _ rfl
    (repeat ((first | refine Num.i64 (by omega) (by omega) ?_ | refine Num.i32 (by omega) (by omega) ?_ | refine Num.u8 (by omega) (by omega) ?_ | refine Br.tt ?_ | refine Br.ff ?_ | refine Br.not_yes ?_ | refine Br.dec_yes (by omega) ?_ | refine Br.dec_no (by omega) ?_ | refine Br.beq_yes (by omega) ?_ | refine Br.beq_no (by omega) ?_ | refine Br.bne_yes (by omega) ?_ | refine Br.bne_no (by omega) ?_ | refine Draw.text (by decide +kernel) ?_ | refine Idx.nat (by omega) ?_ | refine Idx.int (by omega) (by omega) ?_ | refine Cut.to (by omega) ?_ | refine Cut.from (by omega) (by omega) ?_ | refine Cut.both (by omega) (by omega) ?_ | refine Br.dec_yes (by with_reducible assumption) ?_ | refine Br.dec_no (by with_reducible assumption) ?_ | refine Br.yes (by with_reducible assumption) ?_ | refine Br.no (by with_reducible assumption) ?_ | refine Load.one (by rfl) (by with_reducible assumption) ?_ | refine (?_ : Sat _ _ _ _ _ _ _)); (first | refine Then.go hmix ?_ | refine Sat.go hmix ?_ | skip); conv => whnf))
    refine CallS.of (Try.call33 _ _) (c_cutE y.F y.N _ (cut_dn y.F y.N hdn) hE8) ?_
    rintro e wx ⟨rfl, hE9, kx⟩
    refine ⟨_, rfl, ?_⟩; (first | refine Then.go hmix ?_ | refine Sat.go hmix ?_ | refine ResK.go ?_ | skip); conv => whnf
    have hQ9 := hQ8.own kx hb0
    have hW9 := hW8.otherD kx (by omega) hE8.sh
    have hA14 := hAt hQ9
    have t1 := hA14 1 _ rfl; have t2 := hA14 2 _ rfl
    (repeat ((first | refine Num.i64 (by omega) (by omega) ?_ | refine Num.i32 (by omega) (by omega) ?_ | refine Num.u8 (by omega) (by omega) ?_ | refine Br.tt ?_ | refine Br.ff ?_ | refine Br.not_yes ?_ | refine Br.dec_yes (by omega) ?_ | refine Br.dec_no (by omega) ?_ | refine Br.beq_yes (by omega) ?_ | refine Br.beq_no (by omega) ?_ | refine Br.bne_yes (by omega) ?_ | refine Br.bne_no (by omega) ?_ | refine Draw.text (by decide +kernel) ?_ | refine Idx.nat (by omega) ?_ | refine Idx.int (by omega) (by omega) ?_ | refine Cut.to (by omega) ?_ | refine Cut.from (by omega) (by omega) ?_ | refine Cut.both (by omega) (by omega) ?_ | refine Br.dec_yes (by with_reducible assumption) ?_ | refine Br.dec_no (by with_reducible assumption) ?_ | refine Br.yes (by with_reducible assumption) ?_ | refine Br.no (by with_reducible assumption) ?_ | refine Load.one (by rfl) (by with_reducible assumption) ?_ | refine (?_ : Sat _ _ _ _ _ _ _)); (first | refine Then.go hmix ?_ | refine Sat.go hmix ?_ | skip); conv => whnf))
    refine CallS.of (Try.call13 _ _) (c_turnE y.F y.G _ (turn_dn y.F y.G hdn) hE9) ?_
    rintro e wy ⟨rfl, hE10, ky⟩
    refine ⟨_, rfl, ?_⟩; (first | refine Then.go hmix ?_ | refine Sat.go hmix ?_ | refine ResK.go ?_ | skip); conv => whnf
    have hQ10 := hQ9.own ky hb0
    have hW10 := hW9.otherD ky (by omega) hE9.sh
    (repeat ((first | refine Num.i64 (by omega) (by omega) ?_ | refine Num.i32 (by omega) (by omega) ?_ | refine Num.u8 (by omega) (by omega) ?_ | refine Br.tt ?_ | refine Br.ff ?_ | refine Br.not_yes ?_ | refine Br.dec_yes (by omega) ?_ | refine Br.dec_no (by omega) ?_ | refine Br.beq_yes (by omega) ?_ | refine Br.beq_no (by omega) ?_ | refine Br.bne_yes (by omega) ?_ | refine Br.bne_no (by omega) ?_ | refine Draw.text (by decide +kernel) ?_ | refine Idx.nat (by omega) ?_ | refine Idx.int (by omega) (by omega) ?_ | refine Cut.to (by omega) ?_ | refine Cut.from (by omega) (by omega) ?_ | refine Cut.both (by omega) (by omega) ?_ | refine Br.dec_yes (by with_reducible assumption) ?_ | refine Br.dec_no (by with_reducible assumption) ?_ | refine Br.yes (by with_reducible assumption) ?_ | refine Br.no (by with_reducible assumption) ?_ | refine Load.one (by rfl) (by with_reducible assumption) ?_ | refine (?_ : Sat _ _ _ _ _ _ _)); (first | refine Then.go hmix ?_ | refine Sat.go hmix ?_ | skip); conv => whnf))
    refine CallS.of (Try.call21 _ _) (c_downE _ hdn hE10) ?_
    rintro e w' ⟨rfl, rfl⟩
    refine ⟨_, rfl, ?_⟩; (first | refine Then.go hmix ?_ | refine Sat.go hmix ?_ | refine ResK.go ?_ | skip); conv => whnf
    (repeat ((first | refine Num.i64 (by omega) (by omega) ?_ | refine Num.i32 (by omega) (by omega) ?_ | refine Num.u8 (by omega) (by omega) ?_ | refine Br.tt ?_ | refine Br.ff ?_ | refine Br.not_yes ?_ | refine Br.dec_yes (by omega) ?_ | refine Br.dec_no (by omega) ?_ | refine Br.beq_yes (by omega) ?_ | refine Br.beq_no (by omega) ?_ | refine Br.bne_yes (by omega) ?_ | refine Br.bne_no (by omega) ?_ | refine Draw.text (by decide +kernel) ?_ | refine Idx.nat (by omega) ?_ | refine Idx.int (by omega) (by omega) ?_ | refine Cut.to (by omega) ?_ | refine Cut.from (by omega) (by omega) ?_ | refine Cut.both (by omega) (by omega) ?_ | refine Br.dec_yes (by with_reducible assumption) ?_ | refine Br.dec_no (by with_reducible assumption) ?_ | refine Br.yes (by with_reducible assumption) ?_ | refine Br.no (by with_reducible assumption) ?_ | refine Load.one (by rfl) (by with_reducible assumption) ?_ | refine (?_ : Sat _ _ _ _ _ _ _)); (first | refine Then.go hmix ?_ | refine Sat.go hmix ?_ | skip); conv => whnf))
    refine CallS.of (Try.call15 _ _) (c_start w1.heap.size D2 _ hE10) ?_
    rintro e wz ⟨rfl, hE11, kz⟩
    refine ⟨_, rfl, ?_⟩; (first | refine Then.go hmix ?_ | refine Sat.go hmix ?_ | refine ResK.go ?_ | skip); conv => whnf
    have hQ11 := hQ10.own kz hb0
    have hW11 := hW10.otherD kz (by omega) hE10.sh
    refine Loop.intro (ι := Nat) (fun i => [(5, .bool true), (6, .pointer (some ⟨w1.heap.size, 0, none⟩)), (8, .pointer (some ⟨wp.heap.size, 0, none⟩)), (11, .int .i64 i)])
      (fun i wr' => Keeps w0 wr' none_ ∧ i ≤ 8 ∧ DiskAt wr' w1.heap.size (start0 D2) ∧ DiskAt wr' wp.heap.size (start0 D2)) (fun i => 8 - i) 0 ⟨rfl, rfl, rfl, rfl, trivial⟩ ⟨hQ11, Nat.zero_le _, hE11, hW11⟩ ?_
    rintro f g2 wr2 ⟨hKf, hf8, hDf, hWf⟩
    (first | refine Then.go hmix ?_ | refine Sat.go hmix ?_ | refine ResK.go ?_ | skip); conv => whnf
    by_cases hf : f < 8
    · (repeat ((first | refine Num.i64 (by omega) (by omega) ?_ | refine Num.i32 (by omega) (by omega) ?_ | refine Num.u8 (by omega) (by omega) ?_ | refine Br.tt ?_ | refine Br.ff ?_ | refine Br.not_yes ?_ | refine Br.dec_yes (by omega) ?_ | refine Br.dec_no (by omega) ?_ | refine Br.beq_yes (by omega) ?_ | refine Br.beq_no (by omega) ?_ | refine Br.bne_yes (by omega) ?_ | refine Br.bne_no (by omega) ?_ | refine Draw.text (by decide +kernel) ?_ | refine Idx.nat (by omega) ?_ | refine Idx.int (by omega) (by omega) ?_ | refine Cut.to (by omega) ?_ | refine Cut.from (by omega) (by omega) ?_ | refine Cut.both (by omega) (by omega) ?_ | refine Br.dec_yes (by with_reducible assumption) ?_ | refine Br.dec_no (by with_reducible assumption) ?_ | refine Br.yes (by with_reducible assumption) ?_ | refine Br.no (by with_reducible assumption) ?_ | refine Load.one (by rfl) (by with_reducible assumption) ?_ | refine (?_ : Sat _ _ _ _ _ _ _)); (first | refine Then.go hmix ?_ | refine Sat.go hmix ?_ | skip); conv => whnf))
      refine CallS.of (Try.call16 _ _) (c_read w1.heap.size (start0 D2) f _ hDf) ?_
      rintro e wd2 ⟨rfl, kd2⟩
      rw [read_ok (D := start0 D2) rfl (by omega) (by omega), Int.toNat_natCast]
      refine ⟨_, rfl, ?_⟩; (first | refine Then.go hmix ?_ | refine Sat.go hmix ?_ | refine ResK.go ?_ | skip); conv => whnf
      (repeat ((first | refine Num.i64 (by omega) (by omega) ?_ | refine Num.i32 (by omega) (by omega) ?_ | refine Num.u8 (by omega) (by omega) ?_ | refine Br.tt ?_ | refine Br.ff ?_ | refine Br.not_yes ?_ | refine Br.dec_yes (by omega) ?_ | refine Br.dec_no (by omega) ?_ | refine Br.beq_yes (by omega) ?_ | refine Br.beq_no (by omega) ?_ | refine Br.bne_yes (by omega) ?_ | refine Br.bne_no (by omega) ?_ | refine Draw.text (by decide +kernel) ?_ | refine Idx.nat (by omega) ?_ | refine Idx.int (by omega) (by omega) ?_ | refine Cut.to (by omega) ?_ | refine Cut.from (by omega) (by omega) ?_ | refine Cut.both (by omega) (by omega) ?_ | refine Br.dec_yes (by with_reducible assumption) ?_ | refine Br.dec_no (by with_reducible assumption) ?_ | refine Br.yes (by with_reducible assumption) ?_ | refine Br.no (by with_reducible assumption) ?_ | refine Load.one (by rfl) (by with_reducible assumption) ?_ | refine (?_ : Sat _ _ _ _ _ _ _)); (first | refine Then.go hmix ?_ | refine Sat.go hmix ?_ | skip); conv => whnf))
      refine CallS.of (Try.call16 _ _) (c_read wp.heap.size (start0 D2) f _ (hWf.keep0 kd2)) ?_
      rintro e we2 ⟨rfl, ke2⟩
      rw [read_ok (D := start0 D2) rfl (by omega) (by omega), Int.toNat_natCast]
      refine ⟨_, rfl, ?_⟩; (first | refine Then.go hmix ?_ | refine Sat.go hmix ?_ | refine ResK.go ?_ | skip); conv => whnf
      (repeat ((first | refine Num.i64 (by omega) (by omega) ?_ | refine Num.i32 (by omega) (by omega) ?_ | refine Num.u8 (by omega) (by omega) ?_ | refine Br.tt ?_ | refine Br.ff ?_ | refine Br.not_yes ?_ | refine Br.dec_yes (by omega) ?_ | refine Br.dec_no (by omega) ?_ | refine Br.beq_yes (by omega) ?_ | refine Br.beq_no (by omega) ?_ | refine Br.bne_yes (by omega) ?_ | refine Br.bne_no (by omega) ?_ | refine Draw.text (by decide +kernel) ?_ | refine Idx.nat (by omega) ?_ | refine Idx.int (by omega) (by omega) ?_ | refine Cut.to (by omega) ?_ | refine Cut.from (by omega) (by omega) ?_ | refine Cut.both (by omega) (by omega) ?_ | refine Br.dec_yes (by with_reducible assumption) ?_ | refine Br.dec_no (by with_reducible assumption) ?_ | refine Br.yes (by with_reducible assumption) ?_ | refine Br.no (by with_reducible assumption) ?_ | refine Load.one (by rfl) (by with_reducible assumption) ?_ | refine (?_ : Sat _ _ _ _ _ _ _)); (first | refine Then.go hmix ?_ | refine Sat.go hmix ?_ | skip); conv => whnf))
      refine Br.dec_yes (by rfl) ?_
      (first | refine Then.go hmix ?_ | refine Sat.go hmix ?_ | refine ResK.go ?_ | skip); conv => whnf
      (repeat ((first | refine Num.i64 (by omega) (by omega) ?_ | refine Num.i32 (by omega) (by omega) ?_ | refine Num.u8 (by omega) (by omega) ?_ | refine Br.tt ?_ | refine Br.ff ?_ | refine Br.not_yes ?_ | refine Br.dec_yes (by omega) ?_ | refine Br.dec_no (by omega) ?_ | refine Br.beq_yes (by omega) ?_ | refine Br.beq_no (by omega) ?_ | refine Br.bne_yes (by omega) ?_ | refine Br.bne_no (by omega) ?_ | refine Draw.text (by decide +kernel) ?_ | refine Idx.nat (by omega) ?_ | refine Idx.int (by omega) (by omega) ?_ | refine Cut.to (by omega) ?_ | refine Cut.from (by omega) (by omega) ?_ | refine Cut.both (by omega) (by omega) ?_ | refine Br.dec_yes (by with_reducible assumption) ?_ | refine Br.dec_no (by with_reducible assumption) ?_ | refine Br.yes (by with_reducible assumption) ?_ | refine Br.no (by with_reducible assumption) ?_ | refine Load.one (by rfl) (by with_reducible assumption) ?_ | refine (?_ : Sat _ _ _ _ _ _ _)); (first | refine Then.go hmix ?_ | refine Sat.go hmix ?_ | skip); conv => whnf))
      exact ⟨f + 1, ⟨rfl, rfl, rfl, rfl, trivial⟩, ⟨(hKf.trans' kd2).trans' ke2, by omega, (hDf.keep0 kd2).keep0 ke2, (hWf.keep0 kd2).keep0 ke2⟩, by show 8 - (f + 1) < 8 - f; omega⟩
    · (repeat ((first | refine Num.i64 (by omega) (by omega) ?_ | refine Num.i32 (by omega) (by omega) ?_ | refine Num.u8 (by omega) (by omega) ?_ | refine Br.tt ?_ | refine Br.ff ?_ | refine Br.not_yes ?_ | refine Br.dec_yes (by omega) ?_ | refine Br.dec_no (by omega) ?_ | refine Br.beq_yes (by omega) ?_ | refine Br.beq_no (by omega) ?_ | refine Br.bne_yes (by omega) ?_ | refine Br.bne_no (by omega) ?_ | refine Draw.text (by decide +kernel) ?_ | refine Idx.nat (by omega) ?_ | refine Idx.int (by omega) (by omega) ?_ | refine Cut.to (by omega) ?_ | refine Cut.from (by omega) (by omega) ?_ | refine Cut.both (by omega) (by omega) ?_ | refine Br.dec_yes (by with_reducible assumption) ?_ | refine Br.dec_no (by with_reducible assumption) ?_ | refine Br.yes (by with_reducible assumption) ?_ | refine Br.no (by with_reducible assumption) ?_ | refine Load.one (by rfl) (by with_reducible assumption) ?_ | refine (?_ : Sat _ _ _ _ _ _ _)); (first | refine Then.go hmix ?_ | refine Sat.go hmix ?_ | skip); conv => whnf))
      refine CallS.of (Try.call21 _ _) (c_downE (x := false) _ rfl hDf) ?_
      rintro e w' ⟨rfl, rfl⟩
      refine ⟨_, rfl, ?_⟩; (first | refine Then.go hmix ?_ | refine Sat.go hmix ?_ | refine ResK.go ?_ | skip); conv => whnf
      (repeat ((first | refine Num.i64 (by omega) (by omega) ?_ | refine Num.i32 (by omega) (by omega) ?_ | refine Num.u8 (by omega) (by omega) ?_ | refine Br.tt ?_ | refine Br.ff ?_ | refine Br.not_yes ?_ | refine Br.dec_yes (by omega) ?_ | refine Br.dec_no (by omega) ?_ | refine Br.beq_yes (by omega) ?_ | refine Br.beq_no (by omega) ?_ | refine Br.bne_yes (by omega) ?_ | refine Br.bne_no (by omega) ?_ | refine Draw.text (by decide +kernel) ?_ | refine Idx.nat (by omega) ?_ | refine Idx.int (by omega) (by omega) ?_ | refine Cut.to (by omega) ?_ | refine Cut.from (by omega) (by omega) ?_ | refine Cut.both (by omega) (by omega) ?_ | refine Br.dec_yes (by with_reducible assumption) ?_ | refine Br.dec_no (by with_reducible assumption) ?_ | refine Br.yes (by with_reducible assumption) ?_ | refine Br.no (by with_reducible assumption) ?_ | refine Load.one (by rfl) (by with_reducible assumption) ?_ | refine (?_ : Sat _ _ _ _ _ _ _)); (first | refine Then.go hmix ?_ | refine Sat.go hmix ?_ | skip); conv => whnf))
      exact ⟨rfl, hK0.trans' hKf⟩
end Go.Proofs.Ytcnkbpghafhceaa
