/- Helper text of this claim: BctW: lemmas and contracts that the proved statement rests on; no conditions of its own. -/
import Derived.Test.YtcnkbpghafhceaaBctL
namespace Go.Proofs.Ytcnkbpghafhceaa
open Go.RowKit Go.Pw Go.Pw.Dk Go.Vc
set_option linter.unusedVariables false
set_option maxRecDepth 100000
theorem hmix : Try.prog.follows .mixedOrders = true := by kernel_rfl
theorem tmod11 (n : Int) : n.tmod 11 = if 0 ≤ n then n % 11 else if n % 11 = 0 then 0 else n % 11 - 11 := by
  rcases Int.lt_or_le n 0 with h0 | h0
  · rw [if_neg (by omega)]
    rw [Int.tmod_eq_emod (a := n) (b := 11)]; split <;> split <;> omega
  · rw [if_pos h0, Int.tmod_eq_emod_of_nonneg h0]
theorem c_pick (n : Int) (w : World) (h : -9223372036854775808 ≤ n ∧ n ≤ 9223372036854775807) : Calls Try.prog 23 #[.int .i64 n] w fun e w' => e = .returned (.int .i64 (pickI n)) ∧ w = w' := by
  have ht := tmod11 n
  unfold pickI
  refine calls_of_vc (args := [.int .i64 n]) Try.func23 rfl (Nat.le_of_ble_eq_true rfl) ?_; refine Sat.go hmix ?_; conv => whnf
  generalize hr : n.tmod 11 = r at *
  by_cases h0 : r < 0
  · (repeat ((first | refine Num.i64 (by omega) (by omega) ?_ | refine Num.i32 (by omega) (by omega) ?_ | refine Num.u8 (by omega) (by omega) ?_ | refine Br.tt ?_ | refine Br.ff ?_ | refine Br.not_yes ?_ | refine Br.dec_yes (by omega) ?_ | refine Br.dec_no (by omega) ?_ | refine Br.beq_yes (by omega) ?_ | refine Br.beq_no (by omega) ?_ | refine Br.bne_yes (by omega) ?_ | refine Br.bne_no (by omega) ?_ | refine Draw.text (by decide +kernel) ?_ | refine Idx.nat (by omega) ?_ | refine Idx.int (by omega) (by omega) ?_ | refine Cut.to (by omega) ?_ | refine Cut.from (by omega) (by omega) ?_ | refine Cut.both (by omega) (by omega) ?_ | refine Br.dec_yes (by with_reducible assumption) ?_ | refine Br.dec_no (by with_reducible assumption) ?_ | refine Br.yes (by with_reducible assumption) ?_ | refine Br.no (by with_reducible assumption) ?_ | refine Load.one (by rfl) (by with_reducible assumption) ?_ | refine (?_ : Sat _ _ _ _ _ _ _)); (first | refine Then.go hmix ?_ | refine Sat.go hmix ?_ | skip); conv => whnf))
    exact ⟨ret_int (by split at ht <;> (try split at ht) <;> omega), rfl⟩
  · (repeat ((first | refine Num.i64 (by omega) (by omega) ?_ | refine Num.i32 (by omega) (by omega) ?_ | refine Num.u8 (by omega) (by omega) ?_ | refine Br.tt ?_ | refine Br.ff ?_ | refine Br.not_yes ?_ | refine Br.dec_yes (by omega) ?_ | refine Br.dec_no (by omega) ?_ | refine Br.beq_yes (by omega) ?_ | refine Br.beq_no (by omega) ?_ | refine Br.bne_yes (by omega) ?_ | refine Br.bne_no (by omega) ?_ | refine Draw.text (by decide +kernel) ?_ | refine Idx.nat (by omega) ?_ | refine Idx.int (by omega) (by omega) ?_ | refine Cut.to (by omega) ?_ | refine Cut.from (by omega) (by omega) ?_ | refine Cut.both (by omega) (by omega) ?_ | refine Br.dec_yes (by with_reducible assumption) ?_ | refine Br.dec_no (by with_reducible assumption) ?_ | refine Br.yes (by with_reducible assumption) ?_ | refine Br.no (by with_reducible assumption) ?_ | refine Load.one (by rfl) (by with_reducible assumption) ?_ | refine (?_ : Sat _ _ _ _ _ _ _)); (first | refine Then.go hmix ?_ | refine Sat.go hmix ?_ | skip); conv => whnf))
    exact ⟨ret_int (by split at ht <;> (try split at ht) <;> omega), rfl⟩
def beginsB (s t : ByteArray) : Bool := decide (t.size ≤ s.size) && decide (s.extract 0 t.size = t)
theorem c_begins (s t : ByteArray) (w : World) (hs : s.size ≤ 9223372036854775807) (ht : t.size ≤ 9223372036854775807) : Calls Try.prog 24 #[.string s, .string t] w fun e w' => e = .returned (.bool (beginsB s t)) ∧ w = w' := by
  unfold beginsB
  refine calls_of_vc (args := [.string s, .string t]) Try.func24 rfl (Nat.le_of_ble_eq_true rfl) ?_; refine Sat.go hmix ?_; conv => whnf
  by_cases h : t.size ≤ s.size
  · (repeat ((first | refine Num.i64 (by omega) (by omega) ?_ | refine Num.i32 (by omega) (by omega) ?_ | refine Num.u8 (by omega) (by omega) ?_ | refine Br.tt ?_ | refine Br.ff ?_ | refine Br.not_yes ?_ | refine Br.dec_yes (by omega) ?_ | refine Br.dec_no (by omega) ?_ | refine Br.beq_yes (by omega) ?_ | refine Br.beq_no (by omega) ?_ | refine Br.bne_yes (by omega) ?_ | refine Br.bne_no (by omega) ?_ | refine Draw.text (by decide +kernel) ?_ | refine Idx.nat (by omega) ?_ | refine Idx.int (by omega) (by omega) ?_ | refine Cut.to (by omega) ?_ | refine Cut.from (by omega) (by omega) ?_ | refine Cut.both (by omega) (by omega) ?_ | refine Br.dec_yes (by with_reducible assumption) ?_ | refine Br.dec_no (by with_reducible assumption) ?_ | refine Br.yes (by with_reducible assumption) ?_ | refine Br.no (by with_reducible assumption) ?_ | refine Load.one (by rfl) (by with_reducible assumption) ?_ | refine (?_ : Sat _ _ _ _ _ _ _)); (first | refine Then.go hmix ?_ | refine Sat.go hmix ?_ | skip); conv => whnf))
    refine ⟨ret_bool ?_, rfl⟩
    rw [decide_eq_true h, Bool.true_and]
  · (repeat ((first | refine Num.i64 (by omega) (by omega) ?_ | refine Num.i32 (by omega) (by omega) ?_ | refine Num.u8 (by omega) (by omega) ?_ | refine Br.tt ?_ | refine Br.ff ?_ | refine Br.not_yes ?_ | refine Br.dec_yes (by omega) ?_ | refine Br.dec_no (by omega) ?_ | refine Br.beq_yes (by omega) ?_ | refine Br.beq_no (by omega) ?_ | refine Br.bne_yes (by omega) ?_ | refine Br.bne_no (by omega) ?_ | refine Draw.text (by decide +kernel) ?_ | refine Idx.nat (by omega) ?_ | refine Idx.int (by omega) (by omega) ?_ | refine Cut.to (by omega) ?_ | refine Cut.from (by omega) (by omega) ?_ | refine Cut.both (by omega) (by omega) ?_ | refine Br.dec_yes (by with_reducible assumption) ?_ | refine Br.dec_no (by with_reducible assumption) ?_ | refine Br.yes (by with_reducible assumption) ?_ | refine Br.no (by with_reducible assumption) ?_ | refine Load.one (by rfl) (by with_reducible assumption) ?_ | refine (?_ : Sat _ _ _ _ _ _ _)); (first | refine Then.go hmix ?_ | refine Sat.go hmix ?_ | skip); conv => whnf))
    exact ⟨ret_bool (by rw [decide_eq_false h, Bool.false_and]), rfl⟩
theorem kv_slice {b : Nat} {W : World} {v : Value} {kl : List Int} (h : IntsNe b W v kl) : ∃ a c, v = .slice a kl.length c := by
  rcases h with ⟨a, c, rfl, rfl⟩ | ⟨kb, ko, c, rfl, _⟩
  · exact ⟨a, c, rfl⟩
  · exact ⟨_, c, rfl⟩
theorem c_few (W w : World) (a : Option Addr) (len cap : Nat) (xs : List ActD) (ha : Acts W a len xs) (hk : Keeps W w none_) :
    Calls Try.prog 20 #[.slice a len cap] w fun e w' => ∃ r : Bool, e = .returned (.bool r) ∧ (r = true → few xs) ∧ Keeps w w' none_ := by
  have hl := ha.hlen
  have hmx : len ≤ 140737488351232 := ha.hmax
  refine calls_of_vc (args := [.slice a len cap]) Try.func20 rfl (Nat.le_of_ble_eq_true rfl) ?_; refine Sat.go hmix ?_; conv => whnf
  refine Loop.intro (ι := Nat × Int) (fun i => [(0, .slice a len cap), (3, .int .i64 i.2), (4, .int .i64 i.1)])
    (fun i wr => Keeps w wr none_ ∧ i.1 ≤ len ∧ (-9223372036854775808 ≤ i.2 ∧ i.2 ≤ 9223372036854775807) ∧ (len ≤ 200 → i.2 = (fewN xs i.1 : Nat))) (fun i => len - i.1) (0, 0) ⟨rfl, rfl, rfl, trivial⟩ ⟨Keeps.refl _ _, Nat.zero_le _, by decide, fun _ => rfl⟩ ?_
  rintro ⟨k, n⟩ g wr ⟨hkw, hkl, hb, hn⟩
  dsimp only at hkl hb hn ⊢
  (first | refine Then.go hmix ?_ | refine Sat.go hmix ?_ | refine ResK.go ?_ | skip); conv => whnf
  by_cases h : k < len
  · obtain ⟨lb, lo, rfl, hlb, hat⟩ := ha.at_ k h
    have hx := ha.ok k (by omega)
    have hfs := fewN_succ xs k (by omega)
    have hfb := fewN_bound ha k (by omega)
    generalize he : xs.getD k default = x at *
    have c4 : wr.cell? ⟨lb, lo + k * 6 + 4, none⟩ = some (.string x.S) := by rw [(hk.trans' hkw).cell hlb id]; exact hat 4 _ rfl
    have c5 : wr.cell? ⟨lb, lo + k * 6 + 5, none⟩ = some x.kv := by rw [(hk.trans' hkw).cell hlb id]; exact hat 5 _ rfl
    obtain ⟨ka, kc, hkv⟩ := kv_slice hx.k
    rw [hkv] at c5
    have z1 := hx.S; have z2 := hx.kn
    unfold big at z1 z2 hfb
    (repeat ((first | refine Num.i64 (by omega) (by omega) ?_ | refine Num.i32 (by omega) (by omega) ?_ | refine Num.u8 (by omega) (by omega) ?_ | refine Br.tt ?_ | refine Br.ff ?_ | refine Br.not_yes ?_ | refine Br.dec_yes (by omega) ?_ | refine Br.dec_no (by omega) ?_ | refine Br.beq_yes (by omega) ?_ | refine Br.beq_no (by omega) ?_ | refine Br.bne_yes (by omega) ?_ | refine Br.bne_no (by omega) ?_ | refine Draw.text (by decide +kernel) ?_ | refine Idx.nat (by omega) ?_ | refine Idx.int (by omega) (by omega) ?_ | refine Cut.to (by omega) ?_ | refine Cut.from (by omega) (by omega) ?_ | refine Cut.both (by omega) (by omega) ?_ | refine Br.dec_yes (by with_reducible assumption) ?_ | refine Br.dec_no (by with_reducible assumption) ?_ | refine Br.yes (by with_reducible assumption) ?_ | refine Br.no (by with_reducible assumption) ?_ | refine Load.one (by rfl) (by with_reducible assumption) ?_ | refine (?_ : Sat _ _ _ _ _ _ _)); (first | refine Then.go hmix ?_ | refine Sat.go hmix ?_ | skip); conv => whnf))
    (try ((refine Load.one (by rfl) (by first | exact c4) ?_); (first | refine Then.go hmix ?_ | refine Sat.go hmix ?_ | refine ResK.go ?_ | skip); conv => whnf))
    by_cases h200 : len ≤ 200
    · have hn := hn h200
      have hnb : 0 ≤ n ∧ n ≤ 60000000000000000 := by
        have : k * (2 * 140737488351232) ≤ 200 * (2 * 140737488351232) := Nat.mul_le_mul_right _ (by omega)
        omega
      clear hfb
      (repeat ((first | refine Num.i64 (by omega) (by omega) ?_ | refine Num.i32 (by omega) (by omega) ?_ | refine Num.u8 (by omega) (by omega) ?_ | refine Br.tt ?_ | refine Br.ff ?_ | refine Br.not_yes ?_ | refine Br.dec_yes (by omega) ?_ | refine Br.dec_no (by omega) ?_ | refine Br.beq_yes (by omega) ?_ | refine Br.beq_no (by omega) ?_ | refine Br.bne_yes (by omega) ?_ | refine Br.bne_no (by omega) ?_ | refine Draw.text (by decide +kernel) ?_ | refine Idx.nat (by omega) ?_ | refine Idx.int (by omega) (by omega) ?_ | refine Cut.to (by omega) ?_ | refine Cut.from (by omega) (by omega) ?_ | refine Cut.both (by omega) (by omega) ?_ | refine Br.dec_yes (by with_reducible assumption) ?_ | refine Br.dec_no (by with_reducible assumption) ?_ | refine Br.yes (by with_reducible assumption) ?_ | refine Br.no (by with_reducible assumption) ?_ | refine Load.one (by rfl) (by with_reducible assumption) ?_ | refine (?_ : Sat _ _ _ _ _ _ _)); (first | refine Then.go hmix ?_ | refine Sat.go hmix ?_ | skip); conv => whnf))
      (try ((refine Load.one (by rfl) (by first | exact c5) ?_); (first | refine Then.go hmix ?_ | refine Sat.go hmix ?_ | refine ResK.go ?_ | skip); conv => whnf))
      (repeat ((first | refine Num.i64 (by omega) (by omega) ?_ | refine Num.i32 (by omega) (by omega) ?_ | refine Num.u8 (by omega) (by omega) ?_ | refine Br.tt ?_ | refine Br.ff ?_ | refine Br.not_yes ?_ | refine Br.dec_yes (by omega) ?_ | refine Br.dec_no (by omega) ?_ | refine Br.beq_yes (by omega) ?_ | refine Br.beq_no (by omega) ?_ | refine Br.bne_yes (by omega) ?_ | refine Br.bne_no (by omega) ?_ | refine Draw.text (by decide +kernel) ?_ | refine Idx.nat (by omega) ?_ | refine Idx.int (by omega) (by omega) ?_ | refine Cut.to (by omega) ?_ | refine Cut.from (by omega) (by omega) ?_ | refine Cut.both (by omega) (by omega) ?_ | refine Br.dec_yes (by with_reducible assumption) ?_ | refine Br.dec_no (by with_reducible assumption) ?_ | refine Br.yes (by with_reducible assumption) ?_ | refine Br.no (by with_reducible assumption) ?_ | refine Load.one (by rfl) (by with_reducible assumption) ?_ | refine (?_ : Sat _ _ _ _ _ _ _)); (first | refine Then.go hmix ?_ | refine Sat.go hmix ?_ | skip); conv => whnf))
      exact ⟨(k + 1, _), ⟨rfl, rfl, rfl, trivial⟩, ⟨hkw.drew, by dsimp only; omega, by dsimp only; omega, fun _ => by dsimp only; omega⟩, by dsimp only; omega⟩
    · refine Num.any (fun y y1 y2 _ => ?_) rfl
      (first | refine Then.go hmix ?_ | refine Sat.go hmix ?_ | refine ResK.go ?_ | skip); conv => whnf
      (repeat ((first | refine Num.i64 (by omega) (by omega) ?_ | refine Num.i32 (by omega) (by omega) ?_ | refine Num.u8 (by omega) (by omega) ?_ | refine Br.tt ?_ | refine Br.ff ?_ | refine Br.not_yes ?_ | refine Br.dec_yes (by omega) ?_ | refine Br.dec_no (by omega) ?_ | refine Br.beq_yes (by omega) ?_ | refine Br.beq_no (by omega) ?_ | refine Br.bne_yes (by omega) ?_ | refine Br.bne_no (by omega) ?_ | refine Draw.text (by decide +kernel) ?_ | refine Idx.nat (by omega) ?_ | refine Idx.int (by omega) (by omega) ?_ | refine Cut.to (by omega) ?_ | refine Cut.from (by omega) (by omega) ?_ | refine Cut.both (by omega) (by omega) ?_ | refine Br.dec_yes (by with_reducible assumption) ?_ | refine Br.dec_no (by with_reducible assumption) ?_ | refine Br.yes (by with_reducible assumption) ?_ | refine Br.no (by with_reducible assumption) ?_ | refine Load.one (by rfl) (by with_reducible assumption) ?_ | refine (?_ : Sat _ _ _ _ _ _ _)); (first | refine Then.go hmix ?_ | refine Sat.go hmix ?_ | skip); conv => whnf))
      (try ((refine Load.one (by rfl) (by first | exact c5) ?_); (first | refine Then.go hmix ?_ | refine Sat.go hmix ?_ | refine ResK.go ?_ | skip); conv => whnf))
      refine Num.any (fun z z1 z2 _ => ?_) rfl
      (first | refine Then.go hmix ?_ | refine Sat.go hmix ?_ | refine ResK.go ?_ | skip); conv => whnf
      (repeat ((first | refine Num.i64 (by omega) (by omega) ?_ | refine Num.i32 (by omega) (by omega) ?_ | refine Num.u8 (by omega) (by omega) ?_ | refine Br.tt ?_ | refine Br.ff ?_ | refine Br.not_yes ?_ | refine Br.dec_yes (by omega) ?_ | refine Br.dec_no (by omega) ?_ | refine Br.beq_yes (by omega) ?_ | refine Br.beq_no (by omega) ?_ | refine Br.bne_yes (by omega) ?_ | refine Br.bne_no (by omega) ?_ | refine Draw.text (by decide +kernel) ?_ | refine Idx.nat (by omega) ?_ | refine Idx.int (by omega) (by omega) ?_ | refine Cut.to (by omega) ?_ | refine Cut.from (by omega) (by omega) ?_ | refine Cut.both (by omega) (by omega) ?_ | refine Br.dec_yes (by with_reducible assumption) ?_ | refine Br.dec_no (by with_reducible assumption) ?_ | refine Br.yes (by with_reducible assumption) ?_ | refine Br.no (by with_reducible assumption) ?_ | refine Load.one (by rfl) (by with_reducible assumption) ?_ | refine (?_ : Sat _ _ _ _ _ _ _)); (first | refine Then.go hmix ?_ | refine Sat.go hmix ?_ | skip); conv => whnf))
      exact ⟨(k + 1, _), ⟨rfl, rfl, rfl, trivial⟩, ⟨hkw.drew, by dsimp only; omega, ⟨z1, z2⟩, fun _ => by omega⟩, by dsimp only; omega⟩
  · have hkl' : k = xs.length := by omega
    (repeat ((first | refine Num.i64 (by omega) (by omega) ?_ | refine Num.i32 (by omega) (by omega) ?_ | refine Num.u8 (by omega) (by omega) ?_ | refine Br.tt ?_ | refine Br.ff ?_ | refine Br.not_yes ?_ | refine Br.dec_yes (by omega) ?_ | refine Br.dec_no (by omega) ?_ | refine Br.beq_yes (by omega) ?_ | refine Br.beq_no (by omega) ?_ | refine Br.bne_yes (by omega) ?_ | refine Br.bne_no (by omega) ?_ | refine Draw.text (by decide +kernel) ?_ | refine Idx.nat (by omega) ?_ | refine Idx.int (by omega) (by omega) ?_ | refine Cut.to (by omega) ?_ | refine Cut.from (by omega) (by omega) ?_ | refine Cut.both (by omega) (by omega) ?_ | refine Br.dec_yes (by with_reducible assumption) ?_ | refine Br.dec_no (by with_reducible assumption) ?_ | refine Br.yes (by with_reducible assumption) ?_ | refine Br.no (by with_reducible assumption) ?_ | refine Load.one (by rfl) (by with_reducible assumption) ?_ | refine (?_ : Sat _ _ _ _ _ _ _)); (first | refine Then.go hmix ?_ | refine Sat.go hmix ?_ | skip); conv => whnf))
    by_cases h200 : len ≤ 200
    · have hn := hn h200
      rw [hkl'] at hn
      (repeat ((first | refine Num.i64 (by omega) (by omega) ?_ | refine Num.i32 (by omega) (by omega) ?_ | refine Num.u8 (by omega) (by omega) ?_ | refine Br.tt ?_ | refine Br.ff ?_ | refine Br.not_yes ?_ | refine Br.dec_yes (by omega) ?_ | refine Br.dec_no (by omega) ?_ | refine Br.beq_yes (by omega) ?_ | refine Br.beq_no (by omega) ?_ | refine Br.bne_yes (by omega) ?_ | refine Br.bne_no (by omega) ?_ | refine Draw.text (by decide +kernel) ?_ | refine Idx.nat (by omega) ?_ | refine Idx.int (by omega) (by omega) ?_ | refine Cut.to (by omega) ?_ | refine Cut.from (by omega) (by omega) ?_ | refine Cut.both (by omega) (by omega) ?_ | refine Br.dec_yes (by with_reducible assumption) ?_ | refine Br.dec_no (by with_reducible assumption) ?_ | refine Br.yes (by with_reducible assumption) ?_ | refine Br.no (by with_reducible assumption) ?_ | refine Load.one (by rfl) (by with_reducible assumption) ?_ | refine (?_ : Sat _ _ _ _ _ _ _)); (first | refine Then.go hmix ?_ | refine Sat.go hmix ?_ | skip); conv => whnf))
      by_cases hs : n ≤ 100000
      · (repeat ((first | refine Num.i64 (by omega) (by omega) ?_ | refine Num.i32 (by omega) (by omega) ?_ | refine Num.u8 (by omega) (by omega) ?_ | refine Br.tt ?_ | refine Br.ff ?_ | refine Br.not_yes ?_ | refine Br.dec_yes (by omega) ?_ | refine Br.dec_no (by omega) ?_ | refine Br.beq_yes (by omega) ?_ | refine Br.beq_no (by omega) ?_ | refine Br.bne_yes (by omega) ?_ | refine Br.bne_no (by omega) ?_ | refine Draw.text (by decide +kernel) ?_ | refine Idx.nat (by omega) ?_ | refine Idx.int (by omega) (by omega) ?_ | refine Cut.to (by omega) ?_ | refine Cut.from (by omega) (by omega) ?_ | refine Cut.both (by omega) (by omega) ?_ | refine Br.dec_yes (by with_reducible assumption) ?_ | refine Br.dec_no (by with_reducible assumption) ?_ | refine Br.yes (by with_reducible assumption) ?_ | refine Br.no (by with_reducible assumption) ?_ | refine Load.one (by rfl) (by with_reducible assumption) ?_ | refine (?_ : Sat _ _ _ _ _ _ _)); (first | refine Then.go hmix ?_ | refine Sat.go hmix ?_ | skip); conv => whnf))
        exact ⟨_, rfl, fun _ => few_of (by omega) (by omega), hkw⟩
      · (repeat ((first | refine Num.i64 (by omega) (by omega) ?_ | refine Num.i32 (by omega) (by omega) ?_ | refine Num.u8 (by omega) (by omega) ?_ | refine Br.tt ?_ | refine Br.ff ?_ | refine Br.not_yes ?_ | refine Br.dec_yes (by omega) ?_ | refine Br.dec_no (by omega) ?_ | refine Br.beq_yes (by omega) ?_ | refine Br.beq_no (by omega) ?_ | refine Br.bne_yes (by omega) ?_ | refine Br.bne_no (by omega) ?_ | refine Draw.text (by decide +kernel) ?_ | refine Idx.nat (by omega) ?_ | refine Idx.int (by omega) (by omega) ?_ | refine Cut.to (by omega) ?_ | refine Cut.from (by omega) (by omega) ?_ | refine Cut.both (by omega) (by omega) ?_ | refine Br.dec_yes (by with_reducible assumption) ?_ | refine Br.dec_no (by with_reducible assumption) ?_ | refine Br.yes (by with_reducible assumption) ?_ | refine Br.no (by with_reducible assumption) ?_ | refine Load.one (by rfl) (by with_reducible assumption) ?_ | refine (?_ : Sat _ _ _ _ _ _ _)); (first | refine Then.go hmix ?_ | refine Sat.go hmix ?_ | skip); conv => whnf))
        exact ⟨_, rfl, fun h => by simp [hs] at h, hkw⟩
    · (repeat ((first | refine Num.i64 (by omega) (by omega) ?_ | refine Num.i32 (by omega) (by omega) ?_ | refine Num.u8 (by omega) (by omega) ?_ | refine Br.tt ?_ | refine Br.ff ?_ | refine Br.not_yes ?_ | refine Br.dec_yes (by omega) ?_ | refine Br.dec_no (by omega) ?_ | refine Br.beq_yes (by omega) ?_ | refine Br.beq_no (by omega) ?_ | refine Br.bne_yes (by omega) ?_ | refine Br.bne_no (by omega) ?_ | refine Draw.text (by decide +kernel) ?_ | refine Idx.nat (by omega) ?_ | refine Idx.int (by omega) (by omega) ?_ | refine Cut.to (by omega) ?_ | refine Cut.from (by omega) (by omega) ?_ | refine Cut.both (by omega) (by omega) ?_ | refine Br.dec_yes (by with_reducible assumption) ?_ | refine Br.dec_no (by with_reducible assumption) ?_ | refine Br.yes (by with_reducible assumption) ?_ | refine Br.no (by with_reducible assumption) ?_ | refine Load.one (by rfl) (by with_reducible assumption) ?_ | refine (?_ : Sat _ _ _ _ _ _ _)); (first | refine Then.go hmix ?_ | refine Sat.go hmix ?_ | skip); conv => whnf))
      exact ⟨_, rfl, fun h => by simp [h200] at h, hkw⟩
-- do
theorem ints_keep {b : Nat} {W w : World} {v : Value} {kl : List Int} (h : IntsNe W.heap.size W v kl) (hk : Keeps W w none_) (hb : W.heap.size ≤ b) : IntsNe b w v kl := by
  rcases h with h | ⟨kb, ko, c, h1, h2, h3, h4, h5⟩
  · exact .inl h
  · exact .inr ⟨kb, ko, c, h1, Nat.lt_of_lt_of_le h2 hk.size, by omega, h4, fun i hi => by rw [hk.cell h2 id]; exact h5 i hi⟩
theorem ints_keepA {b : Nat} {w : World} {v : Value} {kl : List Int} (h : IntsNe b w v kl) (o : Obj) : IntsNe b (w.alloc o) v kl := by
  rcases h with h | ⟨kb, ko, c, h1, h2, h3, h4, h5⟩
  · exact .inl h
  · exact .inr ⟨kb, ko, c, h1, by simp; omega, h3, h4, fun i hi => cell_alloc (h5 i hi) o⟩
theorem _root_.Go.Proofs.Ytcnkbpghafhceaa.DiskAt.keep0 {w w' : World} {b : Nat} {D : St} (h : DiskAt w b D) (k : Keeps w w' none_) : DiskAt w' b D := h.kept k id (fun _ _ _ => id)
theorem c_do (b : Nat) (D : St) (x : ActD) (w : World) (h : DiskAt w b D) (hF : -9223372036854775808 ≤ x.Do ∧ x.Do ≤ 9223372036854775807) (hN : x.N ≤ 9223372036854775807) (hS : x.S.size ≤ 9223372036854775807) (hv : IntsNe b w x.kv x.kl) (hkl : x.kl.length ≤ 1000000000000) :
    Calls Try.prog 22 #[.pointer (some ⟨b, 0, none⟩), .agg #[.int .i64 x.Do, .int .i64 x.F, .int .i64 x.G, .int .i64 x.N, .string x.S, x.kv]] w fun e w' =>
      e = .returned (.tuple #[.string (doA D x).1.1, .int .i64 (doA D x).1.2]) ∧ DiskAt w' b (doA D x).2 ∧ Keeps w w' (one_ b) := by
  have cell : At (w.alloc (.cells #[.int .i64 x.Do, .int .i64 x.F, .int .i64 x.G, .int .i64 x.N, .string x.S, x.kv] 41)) w.heap.size 0 (cellsA x) := by
    have := at_cells (w := w.alloc (.cells #[.int .i64 x.Do, .int .i64 x.F, .int .i64 x.G, .int .i64 x.N, .string x.S, x.kv] 41)) (heap_alloc_new _ _)
    exact this
  have c0 := cell 0 _ rfl; have c1 := cell 1 _ rfl; have c2 := cell 2 _ rfl; have c3 := cell 3 _ rfl; have c4 := cell 4 _ rfl; have c5 := cell 5 _ rfl
  have hd := h.alloc (.cells #[.int .i64 x.Do, .int .i64 x.F, .int .i64 x.G, .int .i64 x.N, .string x.S, x.kv] 41)
  have hp : 0 ≤ pickI x.Do ∧ pickI x.Do < 11 := by unfold pickI; omega
  refine calls_of_vc (args := [.pointer (some ⟨b, 0, none⟩), .agg #[.int .i64 x.Do, .int .i64 x.F, .int .i64 x.G, .int .i64 x.N, .string x.S, x.kv]]) Try.func22 rfl (Nat.le_of_ble_eq_true rfl) ?_; refine Sat.go hmix ?_; conv => whnf
  (try ((refine Load.one (by rfl) (by first | exact c0) ?_); (first | refine Then.go hmix ?_ | refine Sat.go hmix ?_ | refine ResK.go ?_ | skip); conv => whnf))
  refine CallS.of (Try.call23 _ _) (c_pick x.Do _ hF) ?_
  rintro e w' ⟨rfl, rfl⟩
  refine ⟨_, rfl, ?_⟩; (first | refine Then.go hmix ?_ | refine Sat.go hmix ?_ | refine ResK.go ?_ | skip); conv => whnf
  unfold doA
  generalize pickI x.Do = p at *
  have fin : ∀ {w'} (D' : St), DiskAt w' b D' → Keeps (w.alloc (.cells #[.int .i64 x.Do, .int .i64 x.F, .int .i64 x.G, .int .i64 x.N, .string x.S, x.kv] 41)) w' (one_ b) → Keeps w w' (one_ b) := fun D' _ k => ((Keeps.refl w none_).alloc _).of_none.trans' k
  have hvv := ints_keepA hv (.cells #[.int .i64 x.Do, .int .i64 x.F, .int .i64 x.G, .int .i64 x.N, .string x.S, x.kv] 41)
  generalize hw1 : w.alloc (.cells #[.int .i64 x.Do, .int .i64 x.F, .int .i64 x.G, .int .i64 x.N, .string x.S, x.kv] 41) = w1 at *
  by_cases p0 : p = 0 ∨ p = 1
  · rw [if_pos p0]
    rcases p0 with rfl | rfl
    · (repeat ((first | refine Num.i64 (by omega) (by omega) ?_ | refine Num.i32 (by omega) (by omega) ?_ | refine Num.u8 (by omega) (by omega) ?_ | refine Br.tt ?_ | refine Br.ff ?_ | refine Br.not_yes ?_ | refine Br.dec_yes (by omega) ?_ | refine Br.dec_no (by omega) ?_ | refine Br.beq_yes (by omega) ?_ | refine Br.beq_no (by omega) ?_ | refine Br.bne_yes (by omega) ?_ | refine Br.bne_no (by omega) ?_ | refine Draw.text (by decide +kernel) ?_ | refine Idx.nat (by omega) ?_ | refine Idx.int (by omega) (by omega) ?_ | refine Cut.to (by omega) ?_ | refine Cut.from (by omega) (by omega) ?_ | refine Cut.both (by omega) (by omega) ?_ | refine Br.dec_yes (by with_reducible assumption) ?_ | refine Br.dec_no (by with_reducible assumption) ?_ | refine Br.yes (by with_reducible assumption) ?_ | refine Br.no (by with_reducible assumption) ?_ | refine Load.one (by rfl) (by with_reducible assumption) ?_ | refine (?_ : Sat _ _ _ _ _ _ _)); (first | refine Then.go hmix ?_ | refine Sat.go hmix ?_ | skip); conv => whnf))
      refine CallS.of (Try.call11 _ _) (c_append b D x.F x.S _ hd hS) ?_
      rintro e w' ⟨rfl, h1, h2⟩
      refine ⟨_, rfl, ?_⟩; (first | refine Then.go hmix ?_ | refine Sat.go hmix ?_ | refine ResK.go ?_ | skip); conv => whnf
      exact ⟨rfl, h1, fin _ h1 h2⟩
    · (repeat ((first | refine Num.i64 (by omega) (by omega) ?_ | refine Num.i32 (by omega) (by omega) ?_ | refine Num.u8 (by omega) (by omega) ?_ | refine Br.tt ?_ | refine Br.ff ?_ | refine Br.not_yes ?_ | refine Br.dec_yes (by omega) ?_ | refine Br.dec_no (by omega) ?_ | refine Br.beq_yes (by omega) ?_ | refine Br.beq_no (by omega) ?_ | refine Br.bne_yes (by omega) ?_ | refine Br.bne_no (by omega) ?_ | refine Draw.text (by decide +kernel) ?_ | refine Idx.nat (by omega) ?_ | refine Idx.int (by omega) (by omega) ?_ | refine Cut.to (by omega) ?_ | refine Cut.from (by omega) (by omega) ?_ | refine Cut.both (by omega) (by omega) ?_ | refine Br.dec_yes (by with_reducible assumption) ?_ | refine Br.dec_no (by with_reducible assumption) ?_ | refine Br.yes (by with_reducible assumption) ?_ | refine Br.no (by with_reducible assumption) ?_ | refine Load.one (by rfl) (by with_reducible assumption) ?_ | refine (?_ : Sat _ _ _ _ _ _ _)); (first | refine Then.go hmix ?_ | refine Sat.go hmix ?_ | skip); conv => whnf))
      refine CallS.of (Try.call11 _ _) (c_append b D x.F x.S _ hd hS) ?_
      rintro e w' ⟨rfl, h1, h2⟩
      refine ⟨_, rfl, ?_⟩; (first | refine Then.go hmix ?_ | refine Sat.go hmix ?_ | refine ResK.go ?_ | skip); conv => whnf
      exact ⟨rfl, h1, fin _ h1 h2⟩
  rw [if_neg p0]
  by_cases p2 : p = 2
  · rw [if_pos p2]
    (repeat ((first | refine Num.i64 (by omega) (by omega) ?_ | refine Num.i32 (by omega) (by omega) ?_ | refine Num.u8 (by omega) (by omega) ?_ | refine Br.tt ?_ | refine Br.ff ?_ | refine Br.not_yes ?_ | refine Br.dec_yes (by omega) ?_ | refine Br.dec_no (by omega) ?_ | refine Br.beq_yes (by omega) ?_ | refine Br.beq_no (by omega) ?_ | refine Br.bne_yes (by omega) ?_ | refine Br.bne_no (by omega) ?_ | refine Draw.text (by decide +kernel) ?_ | refine Idx.nat (by omega) ?_ | refine Idx.int (by omega) (by omega) ?_ | refine Cut.to (by omega) ?_ | refine Cut.from (by omega) (by omega) ?_ | refine Cut.both (by omega) (by omega) ?_ | refine Br.dec_yes (by with_reducible assumption) ?_ | refine Br.dec_no (by with_reducible assumption) ?_ | refine Br.yes (by with_reducible assumption) ?_ | refine Br.no (by with_reducible assumption) ?_ | refine Load.one (by rfl) (by with_reducible assumption) ?_ | refine (?_ : Sat _ _ _ _ _ _ _)); (first | refine Then.go hmix ?_ | refine Sat.go hmix ?_ | skip); conv => whnf))
    refine CallS.of (Try.call12 _ _) (c_flush b D x.F _ hd) ?_
    rintro e w' ⟨rfl, h1, h2⟩
    refine ⟨_, rfl, ?_⟩; (first | refine Then.go hmix ?_ | refine Sat.go hmix ?_ | refine ResK.go ?_ | skip); conv => whnf
    exact ⟨rfl, h1, fin _ h1 h2⟩
  rw [if_neg p2]
  by_cases p3 : p = 3
  · rw [if_pos p3]
    (repeat ((first | refine Num.i64 (by omega) (by omega) ?_ | refine Num.i32 (by omega) (by omega) ?_ | refine Num.u8 (by omega) (by omega) ?_ | refine Br.tt ?_ | refine Br.ff ?_ | refine Br.not_yes ?_ | refine Br.dec_yes (by omega) ?_ | refine Br.dec_no (by omega) ?_ | refine Br.beq_yes (by omega) ?_ | refine Br.beq_no (by omega) ?_ | refine Br.bne_yes (by omega) ?_ | refine Br.bne_no (by omega) ?_ | refine Draw.text (by decide +kernel) ?_ | refine Idx.nat (by omega) ?_ | refine Idx.int (by omega) (by omega) ?_ | refine Cut.to (by omega) ?_ | refine Cut.from (by omega) (by omega) ?_ | refine Cut.both (by omega) (by omega) ?_ | refine Br.dec_yes (by with_reducible assumption) ?_ | refine Br.dec_no (by with_reducible assumption) ?_ | refine Br.yes (by with_reducible assumption) ?_ | refine Br.no (by with_reducible assumption) ?_ | refine Load.one (by rfl) (by with_reducible assumption) ?_ | refine (?_ : Sat _ _ _ _ _ _ _)); (first | refine Then.go hmix ?_ | refine Sat.go hmix ?_ | skip); conv => whnf))
    refine CallS.of (Try.call33 _ _) (c_cut b D x.F x.N _ hd) ?_
    rintro e w' ⟨rfl, h1, h2⟩
    refine ⟨_, rfl, ?_⟩; (first | refine Then.go hmix ?_ | refine Sat.go hmix ?_ | refine ResK.go ?_ | skip); conv => whnf
    exact ⟨rfl, h1, fin _ h1 h2⟩
  rw [if_neg p3]
  by_cases p4 : p = 4
  · rw [if_pos p4]
    (repeat ((first | refine Num.i64 (by omega) (by omega) ?_ | refine Num.i32 (by omega) (by omega) ?_ | refine Num.u8 (by omega) (by omega) ?_ | refine Br.tt ?_ | refine Br.ff ?_ | refine Br.not_yes ?_ | refine Br.dec_yes (by omega) ?_ | refine Br.dec_no (by omega) ?_ | refine Br.beq_yes (by omega) ?_ | refine Br.beq_no (by omega) ?_ | refine Br.bne_yes (by omega) ?_ | refine Br.bne_no (by omega) ?_ | refine Draw.text (by decide +kernel) ?_ | refine Idx.nat (by omega) ?_ | refine Idx.int (by omega) (by omega) ?_ | refine Cut.to (by omega) ?_ | refine Cut.from (by omega) (by omega) ?_ | refine Cut.both (by omega) (by omega) ?_ | refine Br.dec_yes (by with_reducible assumption) ?_ | refine Br.dec_no (by with_reducible assumption) ?_ | refine Br.yes (by with_reducible assumption) ?_ | refine Br.no (by with_reducible assumption) ?_ | refine Load.one (by rfl) (by with_reducible assumption) ?_ | refine (?_ : Sat _ _ _ _ _ _ _)); (first | refine Then.go hmix ?_ | refine Sat.go hmix ?_ | skip); conv => whnf))
    refine CallS.of (Try.call13 _ _) (c_turn b D x.F x.G _ hd) ?_
    rintro e w' ⟨rfl, h1, h2⟩
    refine ⟨_, rfl, ?_⟩; (first | refine Then.go hmix ?_ | refine Sat.go hmix ?_ | refine ResK.go ?_ | skip); conv => whnf
    exact ⟨rfl, h1, fin _ h1 h2⟩
  rw [if_neg p4]
  by_cases p5 : p = 5
  · rw [if_pos p5]
    obtain ⟨ka, kc, hkv⟩ := kv_slice hv
    rw [hkv] at c5 hvv
    (repeat ((first | refine Num.i64 (by omega) (by omega) ?_ | refine Num.i32 (by omega) (by omega) ?_ | refine Num.u8 (by omega) (by omega) ?_ | refine Br.tt ?_ | refine Br.ff ?_ | refine Br.not_yes ?_ | refine Br.dec_yes (by omega) ?_ | refine Br.dec_no (by omega) ?_ | refine Br.beq_yes (by omega) ?_ | refine Br.beq_no (by omega) ?_ | refine Br.bne_yes (by omega) ?_ | refine Br.bne_no (by omega) ?_ | refine Draw.text (by decide +kernel) ?_ | refine Idx.nat (by omega) ?_ | refine Idx.int (by omega) (by omega) ?_ | refine Cut.to (by omega) ?_ | refine Cut.from (by omega) (by omega) ?_ | refine Cut.both (by omega) (by omega) ?_ | refine Br.dec_yes (by with_reducible assumption) ?_ | refine Br.dec_no (by with_reducible assumption) ?_ | refine Br.yes (by with_reducible assumption) ?_ | refine Br.no (by with_reducible assumption) ?_ | refine Load.one (by rfl) (by with_reducible assumption) ?_ | refine (?_ : Sat _ _ _ _ _ _ _)); (first | refine Then.go hmix ?_ | refine Sat.go hmix ?_ | skip); conv => whnf))
    refine CallS.of (Try.call14 _ _) (c_crashNe b D _ x.kl _ hd hvv) ?_
    rintro e w' ⟨rfl, h1, h2⟩
    refine ⟨_, rfl, ?_⟩; (first | refine Then.go hmix ?_ | refine Sat.go hmix ?_ | refine ResK.go ?_ | skip); conv => whnf
    exact ⟨rfl, h1, fin _ h1 h2⟩
  rw [if_neg p5]
  by_cases p6 : p = 6
  · rw [if_pos p6]
    (repeat ((first | refine Num.i64 (by omega) (by omega) ?_ | refine Num.i32 (by omega) (by omega) ?_ | refine Num.u8 (by omega) (by omega) ?_ | refine Br.tt ?_ | refine Br.ff ?_ | refine Br.not_yes ?_ | refine Br.dec_yes (by omega) ?_ | refine Br.dec_no (by omega) ?_ | refine Br.beq_yes (by omega) ?_ | refine Br.beq_no (by omega) ?_ | refine Br.bne_yes (by omega) ?_ | refine Br.bne_no (by omega) ?_ | refine Draw.text (by decide +kernel) ?_ | refine Idx.nat (by omega) ?_ | refine Idx.int (by omega) (by omega) ?_ | refine Cut.to (by omega) ?_ | refine Cut.from (by omega) (by omega) ?_ | refine Cut.both (by omega) (by omega) ?_ | refine Br.dec_yes (by with_reducible assumption) ?_ | refine Br.dec_no (by with_reducible assumption) ?_ | refine Br.yes (by with_reducible assumption) ?_ | refine Br.no (by with_reducible assumption) ?_ | refine Load.one (by rfl) (by with_reducible assumption) ?_ | refine (?_ : Sat _ _ _ _ _ _ _)); (first | refine Then.go hmix ?_ | refine Sat.go hmix ?_ | skip); conv => whnf))
    refine CallS.of (Try.call18 _ _) (c_lose b D x.N _ hd hN) ?_
    rintro e w' ⟨rfl, h1, h2⟩
    refine ⟨_, rfl, ?_⟩; (first | refine Then.go hmix ?_ | refine Sat.go hmix ?_ | refine ResK.go ?_ | skip); conv => whnf
    exact ⟨rfl, h1, fin _ h1 h2⟩
  rw [if_neg p6]
  by_cases p7 : p = 7
  · rw [if_pos p7]
    (repeat ((first | refine Num.i64 (by omega) (by omega) ?_ | refine Num.i32 (by omega) (by omega) ?_ | refine Num.u8 (by omega) (by omega) ?_ | refine Br.tt ?_ | refine Br.ff ?_ | refine Br.not_yes ?_ | refine Br.dec_yes (by omega) ?_ | refine Br.dec_no (by omega) ?_ | refine Br.beq_yes (by omega) ?_ | refine Br.beq_no (by omega) ?_ | refine Br.bne_yes (by omega) ?_ | refine Br.bne_no (by omega) ?_ | refine Draw.text (by decide +kernel) ?_ | refine Idx.nat (by omega) ?_ | refine Idx.int (by omega) (by omega) ?_ | refine Cut.to (by omega) ?_ | refine Cut.from (by omega) (by omega) ?_ | refine Cut.both (by omega) (by omega) ?_ | refine Br.dec_yes (by with_reducible assumption) ?_ | refine Br.dec_no (by with_reducible assumption) ?_ | refine Br.yes (by with_reducible assumption) ?_ | refine Br.no (by with_reducible assumption) ?_ | refine Load.one (by rfl) (by with_reducible assumption) ?_ | refine (?_ : Sat _ _ _ _ _ _ _)); (first | refine Then.go hmix ?_ | refine Sat.go hmix ?_ | skip); conv => whnf))
    refine CallS.of (Try.call15 _ _) (c_start b D _ hd) ?_
    rintro e w' ⟨rfl, h1, h2⟩
    refine ⟨_, rfl, ?_⟩; (first | refine Then.go hmix ?_ | refine Sat.go hmix ?_ | refine ResK.go ?_ | skip); conv => whnf
    exact ⟨rfl, h1, fin _ h1 h2⟩
  rw [if_neg p7]
  by_cases p8 : p = 8
  · rw [if_pos p8]
    (repeat ((first | refine Num.i64 (by omega) (by omega) ?_ | refine Num.i32 (by omega) (by omega) ?_ | refine Num.u8 (by omega) (by omega) ?_ | refine Br.tt ?_ | refine Br.ff ?_ | refine Br.not_yes ?_ | refine Br.dec_yes (by omega) ?_ | refine Br.dec_no (by omega) ?_ | refine Br.beq_yes (by omega) ?_ | refine Br.beq_no (by omega) ?_ | refine Br.bne_yes (by omega) ?_ | refine Br.bne_no (by omega) ?_ | refine Draw.text (by decide +kernel) ?_ | refine Idx.nat (by omega) ?_ | refine Idx.int (by omega) (by omega) ?_ | refine Cut.to (by omega) ?_ | refine Cut.from (by omega) (by omega) ?_ | refine Cut.both (by omega) (by omega) ?_ | refine Br.dec_yes (by with_reducible assumption) ?_ | refine Br.dec_no (by with_reducible assumption) ?_ | refine Br.yes (by with_reducible assumption) ?_ | refine Br.no (by with_reducible assumption) ?_ | refine Load.one (by rfl) (by with_reducible assumption) ?_ | refine (?_ : Sat _ _ _ _ _ _ _)); (first | refine Then.go hmix ?_ | refine Sat.go hmix ?_ | skip); conv => whnf))
    refine CallS.of (Try.call16 _ _) (c_read b D x.F _ hd) ?_
    rintro e w' ⟨rfl, h2⟩
    refine ⟨_, rfl, ?_⟩; (first | refine Then.go hmix ?_ | refine Sat.go hmix ?_ | refine ResK.go ?_ | skip); conv => whnf
    exact ⟨rfl, hd.keep0 h2, fin _ (hd.keep0 h2) h2.of_none⟩
  rw [if_neg p8]
  by_cases p10 : p = 10
  · rw [if_pos p10]
    obtain ⟨ka, kc, hkv⟩ := kv_slice hv
    rw [hkv] at c5 hvv
    (repeat ((first | refine Num.i64 (by omega) (by omega) ?_ | refine Num.i32 (by omega) (by omega) ?_ | refine Num.u8 (by omega) (by omega) ?_ | refine Br.tt ?_ | refine Br.ff ?_ | refine Br.not_yes ?_ | refine Br.dec_yes (by omega) ?_ | refine Br.dec_no (by omega) ?_ | refine Br.beq_yes (by omega) ?_ | refine Br.beq_no (by omega) ?_ | refine Br.bne_yes (by omega) ?_ | refine Br.bne_no (by omega) ?_ | refine Draw.text (by decide +kernel) ?_ | refine Idx.nat (by omega) ?_ | refine Idx.int (by omega) (by omega) ?_ | refine Cut.to (by omega) ?_ | refine Cut.from (by omega) (by omega) ?_ | refine Cut.both (by omega) (by omega) ?_ | refine Br.dec_yes (by with_reducible assumption) ?_ | refine Br.dec_no (by with_reducible assumption) ?_ | refine Br.yes (by with_reducible assumption) ?_ | refine Br.no (by with_reducible assumption) ?_ | refine Load.one (by rfl) (by with_reducible assumption) ?_ | refine (?_ : Sat _ _ _ _ _ _ _)); (first | refine Then.go hmix ?_ | refine Sat.go hmix ?_ | skip); conv => whnf))
    refine CallS.of (Try.call25 _ _) (c_arm b D x.N _ x.kl _ hd hN hvv hkl) ?_
    rintro e w' ⟨rfl, h1, h2⟩
    refine ⟨_, rfl, ?_⟩; (first | refine Then.go hmix ?_ | refine Sat.go hmix ?_ | refine ResK.go ?_ | skip); conv => whnf
    exact ⟨rfl, h1, fin _ h1 h2⟩
  rw [if_neg p10]
  (repeat ((first | refine Num.i64 (by omega) (by omega) ?_ | refine Num.i32 (by omega) (by omega) ?_ | refine Num.u8 (by omega) (by omega) ?_ | refine Br.tt ?_ | refine Br.ff ?_ | refine Br.not_yes ?_ | refine Br.dec_yes (by omega) ?_ | refine Br.dec_no (by omega) ?_ | refine Br.beq_yes (by omega) ?_ | refine Br.beq_no (by omega) ?_ | refine Br.bne_yes (by omega) ?_ | refine Br.bne_no (by omega) ?_ | refine Draw.text (by decide +kernel) ?_ | refine Idx.nat (by omega) ?_ | refine Idx.int (by omega) (by omega) ?_ | refine Cut.to (by omega) ?_ | refine Cut.from (by omega) (by omega) ?_ | refine Cut.both (by omega) (by omega) ?_ | refine Br.dec_yes (by with_reducible assumption) ?_ | refine Br.dec_no (by with_reducible assumption) ?_ | refine Br.yes (by with_reducible assumption) ?_ | refine Br.no (by with_reducible assumption) ?_ | refine Load.one (by rfl) (by with_reducible assumption) ?_ | refine (?_ : Sat _ _ _ _ _ _ _)); (first | refine Then.go hmix ?_ | refine Sat.go hmix ?_ | skip); conv => whnf))
  exact ⟨rfl, hd, fin _ hd (Keeps.refl _ _)⟩
end Go.Proofs.Ytcnkbpghafhceaa
