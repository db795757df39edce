/- Helper text of this claim: Ch8: lemmas and contracts that the proved statement rests on; no conditions of its own. -/
-- alias Tryd
import Derived.Test.YtmipmlcolaaonaaDoorCh7
namespace Go.Proofs.YtmipmlcolaaonaaDoor
open Go.RowKit Go.Pw Go.Vc Go.Cs Go.Lib
set_option linter.unusedVariables false
set_option maxRecDepth 100000
section
variable {w : World}
/-- A byte's decoder, as a function of the program. -/
def Signs (g : FuncId) (k : Nat) : Prop := (∀ (args : Array Value) (w : World), (callFunc g args).run Tryd.prog w = .ok (.enter g args) w) ∧ ∀ (x : UInt8) (w : World), Calls Tryd.prog g #[.int .u8 x.toNat] w fun e w' => e = .returned (.int .i64 ((sgn k x : Nat) : Int)) ∧ w = w'
theorem signs_ascii : Signs 83 1 := ⟨Tryd.call83, fun x w => cs_ascii x⟩
theorem signs_latin : Signs 84 3 := ⟨Tryd.call84, fun x w => cs_latin x⟩
theorem signs_windows : Signs 57 0 := ⟨Tryd.call57, fun x w => cs_windows x⟩
theorem cs_bytewise (g : FuncId) : Calls Tryd.prog 56 #[.func (.func g) #[] #[]] w fun e w' => ∃ b, e = .returned (.func (.func 85) #[] #[.pointer (some ⟨b, 0, none⟩)]) ∧ w'.cell? ⟨b, 0, none⟩ = some (.func (.func g) #[] #[]) ∧ Keeps w w' none_ := by
  refine calls_of_vc (args := [.func (.func g) #[] #[]]) Tryd.func56 rfl (Nat.le_of_ble_eq_true rfl) ?_; refine Sat.go hmix ?_; conv => whnf
  exact ⟨w.heap.size, by simp [ev, upd], by rw [World.cell?_alloc_new]; rfl, (Keeps.refl _ _).alloc _⟩
theorem Rns.store {B g n c i : Nat} {l : List Nat} (h : Rns w B (.slice (some ⟨g, 0, none⟩) n c) l) (hi : i < n) (x : Nat) : ∃ u, w.cell? ⟨g, 0 + i, none⟩ = some u ∧ w.frozen? ⟨g, 0 + i, none⟩ = false ∧
    Rns (w.setCell ⟨g, 0 + i, none⟩ (.int .i64 (x : Int))) B (.slice (some ⟨g, 0, none⟩) n c) (l.set i x) ∧ w.grownBy (w.setCell ⟨g, 0 + i, none⟩ (.int .i64 (x : Int))) (some g) := by
  obtain ⟨a', c', e⟩ := own_shape h
  injection e with _ e _
  subst e
  obtain ⟨g', h1, _, _, hc⟩ := rns_cell h hi
  injection h1 with h1
  injection h1 with h1
  subst h1
  have hs := World.ownsRow.stored h i (.int .i64 (x : Int))
  rw [Nat.zero_add] at *
  refine ⟨_, hc, World.ownsRow.frozenAt h i, ?_, hs.2⟩
  have := hs.1
  unfold Rns
  rw [List.length_set, List.map_set]
  exact this
theorem maket : makeT Tryd.prog 26 = some (3, .int .i64 0, 8) := by kernel_rfl
theorem set_zero (R : List Nat) (z n : Nat) (c : Nat) (h : n = R.length) : (R ++ List.replicate (z + 1) 0).set n c = R ++ [c] ++ List.replicate z 0 := by
  subst h
  rw [List.set_append_right _ _ (Nat.le_refl _), Nat.sub_self, List.replicate_succ, List.set_cons_zero, List.append_assoc]; rfl
set_option maxHeartbeats 1000000 in
theorem cs_bytewise1 (g k b : Nat) (s : ByteArray) (hg : Signs g k) (hb : w.cell? ⟨b, 0, none⟩ = some (.func (.func g) #[] #[])) (hs : s.size ≤ 100000000) :
    Calls Tryd.prog 85 #[.string s, .pointer (some ⟨b, 0, none⟩)] w fun e w' => e = .returned (.string (str (encs ((L s).map (sgn k))))) ∧ Keeps w w' none_ := by
  have hl := L_len s
  refine calls_of_vc (args := [.string s, .pointer (some ⟨b, 0, none⟩)]) Tryd.func85 rfl (Nat.le_of_ble_eq_true rfl) ?_; refine Sat.go hmix ?_; conv => whnf
  refine RunV.make s.size s.size maket rfl (Nat.le_refl _) (by omega) (by omega) ?_
  (repeat ((first | refine Num.i64 (by omega) (by omega) ?_ | refine Num.i32 (by omega) (by omega) ?_ | refine Num.u8 (by omega) (by omega) ?_ | refine Br.tt ?_ | refine Br.ff ?_ | refine Br.not_yes ?_ | refine Br.dec_yes (by omega) ?_ | refine Br.dec_no (by omega) ?_ | refine Br.beq_yes (by omega) ?_ | refine Br.beq_no (by omega) ?_ | refine Br.bne_yes (by omega) ?_ | refine Br.bne_no (by omega) ?_ | refine Draw.text (by decide +kernel) ?_ | refine Idx.lit (j := 0) rfl (by omega) ?_ | refine Idx.lit (j := 1) rfl (by omega) ?_ | refine Idx.lit (j := 2) rfl (by omega) ?_ | refine Idx.lit (j := 3) rfl (by omega) ?_ | refine Idx.lit (j := 4) rfl (by omega) ?_ | refine Idx.lit (j := 5) rfl (by omega) ?_ | refine Idx.lit (j := 6) rfl (by omega) ?_ | refine Idx.lit (j := 7) rfl (by omega) ?_ | refine Idx.nat (by omega) ?_ | refine Idx.int (by omega) (by omega) ?_ | refine Cut.to (by omega) ?_ | refine Cut.from (by omega) (by omega) ?_ | refine Cut.both (by omega) (by omega) ?_ | refine Br.dec_yes (by with_reducible assumption) ?_ | refine Br.dec_no (by with_reducible assumption) ?_ | refine Br.yes (by with_reducible assumption) ?_ | refine Br.no (by with_reducible assumption) ?_ | refine Load.one (by rfl) (by with_reducible assumption) ?_ | refine (?_ : Sat _ _ _ _ _ _ _) | refine (?_ : Then _ _ _ _ _ _ _ _)); (first | refine Then.go hmix ?_ | refine Sat.go hmix ?_ | skip); conv => whnf))
  have hr0 : Rns (w.alloc (.cells (Array.replicate s.size (.int .i64 0)) 3)) w.heap.size (.slice (some ⟨w.heap.size, 0, none⟩) s.size s.size) (List.replicate s.size 0) := by
    have := own_lit1 w (Array.replicate s.size (.int .i64 0)) 3 s.size (by simp) (by omega)
    unfold Rns
    rw [List.length_replicate, List.map_replicate]
    simpa using this
  have K0 : Keeps w (w.alloc (.cells (Array.replicate s.size (.int .i64 0)) 3)) none_ := (Keeps.refl _ _).alloc _
  generalize w.alloc (.cells (Array.replicate s.size (.int .i64 0)) 3) = w0 at *
  refine Loop.intro (ι := Nat) (fun i => [(0, .string s), (1, .pointer (some ⟨b, 0, none⟩)), (4, .slice (some ⟨w.heap.size, 0, none⟩) s.size s.size), (10, .int .i64 s.size), (11, .int .i64 i)])
    (fun i wr => Keeps w wr none_ ∧ i ≤ s.size ∧ Rns wr w.heap.size (.slice (some ⟨w.heap.size, 0, none⟩) s.size s.size) (((L s).take i).map (sgn k) ++ List.replicate (s.size - i) 0)) (fun i => s.size - i) 0 ⟨rfl, rfl, rfl, rfl, rfl, trivial⟩
    ⟨K0, Nat.zero_le _, hr0⟩ ?_
  rintro n g wr ⟨hK, hn, hr⟩
  (first | refine Then.go hmix ?_ | refine Sat.go hmix ?_ | refine ResK.go ?_ | skip); conv => whnf
  by_cases hlt : n < s.size
  · (repeat ((first | refine Num.i64 (by omega) (by omega) ?_ | refine Num.i32 (by omega) (by omega) ?_ | refine Num.u8 (by omega) (by omega) ?_ | refine Br.tt ?_ | refine Br.ff ?_ | refine Br.not_yes ?_ | refine Br.dec_yes (by omega) ?_ | refine Br.dec_no (by omega) ?_ | refine Br.beq_yes (by omega) ?_ | refine Br.beq_no (by omega) ?_ | refine Br.bne_yes (by omega) ?_ | refine Br.bne_no (by omega) ?_ | refine Draw.text (by decide +kernel) ?_ | refine Idx.lit (j := 0) rfl (by omega) ?_ | refine Idx.lit (j := 1) rfl (by omega) ?_ | refine Idx.lit (j := 2) rfl (by omega) ?_ | refine Idx.lit (j := 3) rfl (by omega) ?_ | refine Idx.lit (j := 4) rfl (by omega) ?_ | refine Idx.lit (j := 5) rfl (by omega) ?_ | refine Idx.lit (j := 6) rfl (by omega) ?_ | refine Idx.lit (j := 7) rfl (by omega) ?_ | refine Idx.nat (by omega) ?_ | refine Idx.int (by omega) (by omega) ?_ | refine Cut.to (by omega) ?_ | refine Cut.from (by omega) (by omega) ?_ | refine Cut.both (by omega) (by omega) ?_ | refine Br.dec_yes (by with_reducible assumption) ?_ | refine Br.dec_no (by with_reducible assumption) ?_ | refine Br.yes (by with_reducible assumption) ?_ | refine Br.no (by with_reducible assumption) ?_ | refine Load.one (by rfl) (by with_reducible assumption) ?_ | refine (?_ : Sat _ _ _ _ _ _ _) | refine (?_ : Then _ _ _ _ _ _ _ _)); (first | refine Then.go hmix ?_ | refine Sat.go hmix ?_ | skip); conv => whnf))
    have hbc := (hK.drew.cell (p := ⟨b, 0, none⟩) (cell_lt hb) id).trans hb
    refine Load.one (by rfl) hbc ?_
    (repeat ((first | refine Num.i64 (by omega) (by omega) ?_ | refine Num.i32 (by omega) (by omega) ?_ | refine Num.u8 (by omega) (by omega) ?_ | refine Br.tt ?_ | refine Br.ff ?_ | refine Br.not_yes ?_ | refine Br.dec_yes (by omega) ?_ | refine Br.dec_no (by omega) ?_ | refine Br.beq_yes (by omega) ?_ | refine Br.beq_no (by omega) ?_ | refine Br.bne_yes (by omega) ?_ | refine Br.bne_no (by omega) ?_ | refine Draw.text (by decide +kernel) ?_ | refine Idx.lit (j := 0) rfl (by omega) ?_ | refine Idx.lit (j := 1) rfl (by omega) ?_ | refine Idx.lit (j := 2) rfl (by omega) ?_ | refine Idx.lit (j := 3) rfl (by omega) ?_ | refine Idx.lit (j := 4) rfl (by omega) ?_ | refine Idx.lit (j := 5) rfl (by omega) ?_ | refine Idx.lit (j := 6) rfl (by omega) ?_ | refine Idx.lit (j := 7) rfl (by omega) ?_ | refine Idx.nat (by omega) ?_ | refine Idx.int (by omega) (by omega) ?_ | refine Cut.to (by omega) ?_ | refine Cut.from (by omega) (by omega) ?_ | refine Cut.both (by omega) (by omega) ?_ | refine Br.dec_yes (by with_reducible assumption) ?_ | refine Br.dec_no (by with_reducible assumption) ?_ | refine Br.yes (by with_reducible assumption) ?_ | refine Br.no (by with_reducible assumption) ?_ | refine Load.one (by rfl) (by with_reducible assumption) ?_ | refine (?_ : Sat _ _ _ _ _ _ _) | refine (?_ : Then _ _ _ _ _ _ _ _)); (first | refine Then.go hmix ?_ | refine Sat.go hmix ?_ | skip); conv => whnf))
    obtain ⟨x, hx0, hx1, hx2, _⟩ := take_byte s n hlt
    have hx0 : byteAt s n = x := hx0
    rw [hx0]
    refine CallS.of (hg.1 _ _) (hg.2 x _) ?_
    rintro e w1 ⟨rfl, rfl⟩
    refine ⟨_, rfl, ?_⟩; (first | refine Then.go hmix ?_ | refine Sat.go hmix ?_ | refine ResK.go ?_ | skip); conv => whnf
    (repeat ((first | refine Num.i64 (by omega) (by omega) ?_ | refine Num.i32 (by omega) (by omega) ?_ | refine Num.u8 (by omega) (by omega) ?_ | refine Br.tt ?_ | refine Br.ff ?_ | refine Br.not_yes ?_ | refine Br.dec_yes (by omega) ?_ | refine Br.dec_no (by omega) ?_ | refine Br.beq_yes (by omega) ?_ | refine Br.beq_no (by omega) ?_ | refine Br.bne_yes (by omega) ?_ | refine Br.bne_no (by omega) ?_ | refine Draw.text (by decide +kernel) ?_ | refine Idx.lit (j := 0) rfl (by omega) ?_ | refine Idx.lit (j := 1) rfl (by omega) ?_ | refine Idx.lit (j := 2) rfl (by omega) ?_ | refine Idx.lit (j := 3) rfl (by omega) ?_ | refine Idx.lit (j := 4) rfl (by omega) ?_ | refine Idx.lit (j := 5) rfl (by omega) ?_ | refine Idx.lit (j := 6) rfl (by omega) ?_ | refine Idx.lit (j := 7) rfl (by omega) ?_ | refine Idx.nat (by omega) ?_ | refine Idx.int (by omega) (by omega) ?_ | refine Cut.to (by omega) ?_ | refine Cut.from (by omega) (by omega) ?_ | refine Cut.both (by omega) (by omega) ?_ | refine Br.dec_yes (by with_reducible assumption) ?_ | refine Br.dec_no (by with_reducible assumption) ?_ | refine Br.yes (by with_reducible assumption) ?_ | refine Br.no (by with_reducible assumption) ?_ | refine Load.one (by rfl) (by with_reducible assumption) ?_ | refine (?_ : Sat _ _ _ _ _ _ _) | refine (?_ : Then _ _ _ _ _ _ _ _)); (first | refine Then.go hmix ?_ | refine Sat.go hmix ?_ | skip); conv => whnf))
    obtain ⟨u, s1, s2, s3, s4⟩ := Rns.store (w := wr.drew) (own_drew hr) hlt (sgn k x)
    refine Store.one (by rfl) ⟨rfl, by simp, by simp⟩ s1 s2 ?_
    have K1 := hK.drew.grown s4 (fun j hj => by injection hj with hj; omega)
    generalize (wr.drew).setCell ⟨w.heap.size, 0 + n, none⟩ (.int .i64 ((sgn k x : Nat) : Int)) = w2 at *
    (repeat ((first | refine Num.i64 (by omega) (by omega) ?_ | refine Num.i32 (by omega) (by omega) ?_ | refine Num.u8 (by omega) (by omega) ?_ | refine Br.tt ?_ | refine Br.ff ?_ | refine Br.not_yes ?_ | refine Br.dec_yes (by omega) ?_ | refine Br.dec_no (by omega) ?_ | refine Br.beq_yes (by omega) ?_ | refine Br.beq_no (by omega) ?_ | refine Br.bne_yes (by omega) ?_ | refine Br.bne_no (by omega) ?_ | refine Draw.text (by decide +kernel) ?_ | refine Idx.lit (j := 0) rfl (by omega) ?_ | refine Idx.lit (j := 1) rfl (by omega) ?_ | refine Idx.lit (j := 2) rfl (by omega) ?_ | refine Idx.lit (j := 3) rfl (by omega) ?_ | refine Idx.lit (j := 4) rfl (by omega) ?_ | refine Idx.lit (j := 5) rfl (by omega) ?_ | refine Idx.lit (j := 6) rfl (by omega) ?_ | refine Idx.lit (j := 7) rfl (by omega) ?_ | refine Idx.nat (by omega) ?_ | refine Idx.int (by omega) (by omega) ?_ | refine Cut.to (by omega) ?_ | refine Cut.from (by omega) (by omega) ?_ | refine Cut.both (by omega) (by omega) ?_ | refine Br.dec_yes (by with_reducible assumption) ?_ | refine Br.dec_no (by with_reducible assumption) ?_ | refine Br.yes (by with_reducible assumption) ?_ | refine Br.no (by with_reducible assumption) ?_ | refine Load.one (by rfl) (by with_reducible assumption) ?_ | refine (?_ : Sat _ _ _ _ _ _ _) | refine (?_ : Then _ _ _ _ _ _ _ _)); (first | refine Then.go hmix ?_ | refine Sat.go hmix ?_ | skip); conv => whnf))
    refine ⟨n + 1, ⟨rfl, rfl, rfl, rfl, v_int (by simp), trivial⟩, ⟨K1, by omega, ?_⟩, by dsimp only; omega⟩
    rw [hx2, List.map_append, List.map_cons, List.map_nil, ← set_zero _ (s.size - (n + 1)) n (sgn k x) (by rw [List.length_map, List.length_take]; omega), show s.size - (n + 1) + 1 = s.size - n by omega]
    exact s3
  · (repeat ((first | refine Num.i64 (by omega) (by omega) ?_ | refine Num.i32 (by omega) (by omega) ?_ | refine Num.u8 (by omega) (by omega) ?_ | refine Br.tt ?_ | refine Br.ff ?_ | refine Br.not_yes ?_ | refine Br.dec_yes (by omega) ?_ | refine Br.dec_no (by omega) ?_ | refine Br.beq_yes (by omega) ?_ | refine Br.beq_no (by omega) ?_ | refine Br.bne_yes (by omega) ?_ | refine Br.bne_no (by omega) ?_ | refine Draw.text (by decide +kernel) ?_ | refine Idx.lit (j := 0) rfl (by omega) ?_ | refine Idx.lit (j := 1) rfl (by omega) ?_ | refine Idx.lit (j := 2) rfl (by omega) ?_ | refine Idx.lit (j := 3) rfl (by omega) ?_ | refine Idx.lit (j := 4) rfl (by omega) ?_ | refine Idx.lit (j := 5) rfl (by omega) ?_ | refine Idx.lit (j := 6) rfl (by omega) ?_ | refine Idx.lit (j := 7) rfl (by omega) ?_ | refine Idx.nat (by omega) ?_ | refine Idx.int (by omega) (by omega) ?_ | refine Cut.to (by omega) ?_ | refine Cut.from (by omega) (by omega) ?_ | refine Cut.both (by omega) (by omega) ?_ | refine Br.dec_yes (by with_reducible assumption) ?_ | refine Br.dec_no (by with_reducible assumption) ?_ | refine Br.yes (by with_reducible assumption) ?_ | refine Br.no (by with_reducible assumption) ?_ | refine Load.one (by rfl) (by with_reducible assumption) ?_ | refine (?_ : Sat _ _ _ _ _ _ _) | refine (?_ : Then _ _ _ _ _ _ _ _)); (first | refine Then.go hmix ?_ | refine Sat.go hmix ?_ | skip); conv => whnf))
    have hnn : n = s.size := by omega
    subst hnn
    rw [Nat.sub_self, List.replicate_zero, List.append_nil, ← hl, List.take_length] at hr
    have hr' : Rns wr w.heap.size (.slice (some ⟨w.heap.size, 0, none⟩) ((L s).map (sgn k)).length s.size) ((L s).map (sgn k)) := by rw [List.length_map]; exact hr
    have hj := cs_joined (some ⟨w.heap.size, 0, none⟩) s.size _ _ hr' (fun c hc => by
      obtain ⟨y, _, rfl⟩ := List.mem_map.1 hc
      exact scal_le (sgn_scal k y)) (by rw [List.length_map]; omega)
    rw [List.length_map, hl] at hj
    refine CallS.of (Tryd.call64 _ _) hj ?_
    rintro e w2 ⟨rfl, k2⟩
    refine ⟨_, rfl, ?_⟩; (first | refine Then.go hmix ?_ | refine Sat.go hmix ?_ | refine ResK.go ?_ | skip); conv => whnf
    exact ⟨rfl, hK.trans0 k2⟩
end
end Go.Proofs.YtmipmlcolaaonaaDoor
