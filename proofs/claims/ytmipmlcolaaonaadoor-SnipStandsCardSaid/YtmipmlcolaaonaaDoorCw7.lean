/- Helper text of this claim: Cw7: lemmas and contracts that the proved statement rests on; no conditions of its own. -/
import Derived.Test.YtmipmlcolaaonaaDoorCw6
import Derived.Test.YtmipmlcolaaonaaDoorWcz
-- alias Tryd
namespace Go.Proofs.YtmipmlcolaaonaaDoor
open Go.RowKit Go.Pw Go.Vc Go.Cs Go.Lib
set_option linter.unusedVariables false
set_option maxRecDepth 100000
def sv (s : List UInt8) : Value := .string (str s)
/-- A row of texts, the call's own. -/
def Txs (w : World) (B : Nat) (v : Value) (l : List (List UInt8)) : Prop := w.ownsRow B 9 1 v l.length (l.map sv)
theorem stringInfo : (Tryd.prog.info? 9).map (fun i => (i.zero, i.size, i.bytes)) = some (some (.string ⟨#[]⟩), 1, 16) := by kernel_rfl
theorem build_text (s : ByteArray) (w : World) : (Instr.buildSlice 37 1 [(0, .string s)].toArray).run Tryd.prog w = .ok (.slice (some ⟨w.heap.size, 0, none⟩) 1 1) (w.alloc (.cells #[.string s] 9)) := by
  simp [Instr.buildSlice, go_sem, Tryd.runUnderlying37]
theorem app_text {w : World} {K : Value → World → Prop} {B : Nat} {v : Value} {l : List (List UInt8)} {cs : Array Bool} (h : Txs w B v l) (hB : B ≤ w.heap.size) (x : List UInt8) (hl : l.length ≤ 1000000000)
    (k : ∀ v' w', Txs w' B v' (l ++ [x]) → (w.alloc (.cells #[sv x] 9)).grownBy w' v.ownBlock → K v' w') :
    RunN Tryd.prog (builtin .append #[37, 37] 37 cs [v, .slice (some ⟨w.heap.size, 0, none⟩) 1 1].toArray) (w.alloc (.cells #[sv x] 9)) K := by
  refine RunN.app Tryd.underlying37 stringInfo rfl (by decide) (own_keep0 h ((Keeps.refl _ _).alloc _)) (Nat.le_trans hB ((Keeps.refl w none_).alloc _).size) ⟨w.heap.size, 0, none⟩ 1 1 [sv x] rfl (new_cells _ _ _) (by simp [sv, Value.oneCell']) (by omega) (by omega) fun v' w' h2 h3 => k v' w' ?_ h3
  unfold Txs
  rw [List.length_append, List.map_append]
  simpa using h2
theorem at_text {w : World} {g : Nat} {l : List (List UInt8)} (h : At w g 0 (l.map sv)) {i : Nat} (hi : i < l.length) : w.cell? ⟨g, 0 + i, none⟩ = some (.string (str l[i])) := h i _ (by rw [List.getElem?_map, List.getElem?_eq_getElem hi]; rfl)
theorem str_eq (a b : List UInt8) : (str a = str b) ↔ a = b := ⟨fun e => by have := congrArg L e; rwa [L_str, L_str] at this, fun e => by rw [e]⟩
set_option maxHeartbeats 1000000 in
theorem ref_SameTexts {w : World} {va vb : Value} {la lb : List (List UInt8)} (ha : Rd w va la.length (la.map sv)) (hb : Rd w vb lb.length (lb.map sv)) (hl : la.length ≤ 1000000000) (hl2 : lb.length ≤ 1000000000) :
    Calls Tryd.prog 38 #[va, vb] w fun e w' => e = .returned (.bool (decide (la = lb))) ∧ Keeps w w' none_ := by
  obtain ⟨aa, ca, rfl, ha⟩ := ha
  obtain ⟨ab, cb, rfl, hb⟩ := hb
  refine calls_of_vc (args := [.slice aa la.length ca, .slice ab lb.length cb]) Tryd.func38 rfl (Nat.le_of_ble_eq_true rfl) ?_; refine Sat.go hmix ?_; conv => whnf
  by_cases hn : la.length = lb.length
  · refine GO ?_
    refine Loop.intro (ι := Nat) (fun i => [(0, .slice aa la.length ca), (1, .slice ab lb.length cb), (5, .int .i64 (i : Nat))]) (fun i wr => Keeps w wr none_ ∧ i ≤ la.length ∧ la.take i = lb.take i) (fun i => la.length - i) 0 ⟨rfl, rfl, rfl, trivial⟩
      ⟨Keeps.refl _ _, Nat.zero_le _, rfl⟩ ?_
    rintro i gg wr ⟨hK, hi, ht⟩
    (first | refine Then.go hmix ?_ | refine Sat.go hmix ?_ | refine ResK.go ?_ | skip); conv => whnf
    by_cases hlt : i < la.length
    · obtain ⟨g1, rfl, b1, h1⟩ := ha (by omega)
      obtain ⟨g2, rfl, b2, h2⟩ := hb (by omega)
      have hlt2 : i < lb.length := by omega
      have c1 : wr.drew.cell? ⟨g1, 0 + i, none⟩ = _ := at_text (at_keep h1 hK) hlt
      have c2 : wr.drew.cell? ⟨g2, 0 + i, none⟩ = _ := at_text (at_keep h2 hK) hlt2
      by_cases he : la[i] = lb[i]
      · have hd : decide (str la[i] = str lb[i]) = true := by simp [he]
        refine GO ?_
        exact ⟨i + 1, ⟨rfl, rfl, v_int (by simp), trivial⟩, ⟨hK.drew, by omega, take_eq_step hlt hlt2 ht he⟩, by dsimp only; omega⟩
      · have hd : decide (str la[i] = str lb[i]) = false := by simp [str_eq, he]
        refine GO ?_
        refine ⟨?_, hK.drew⟩
        have : la ≠ lb := fun e => he (by simp [e])
        simp [this]
    · refine GO ?_
      refine ⟨?_, hK⟩
      have e : i = la.length := by omega
      rw [e, List.take_length, hn, List.take_length] at ht
      simp [ht]
  · refine GO ?_
    refine ⟨?_, Keeps.refl _ _⟩
    have : la ≠ lb := fun e => hn (by rw [e])
    simp [this]
theorem wd_len : ∀ (u : List (Nat × Nat)) (p : Nat) (f : Option Nat), (wd u p f).length ≤ 2 * u.length + 1
  | [], p, f => by cases f <;> simp [wd, close]
  | (k, n) :: r, p, f => by
    have h1 := fun q g => wd_len r q g
    have hc : (close f p).length ≤ 1 := by cases f <;> simp [close]
    simp only [wd]
    split
    · have := h1 (p + n) none; simp; omega
    · split
      · have := h1 (p + n) none; simp; omega
      · split
        · split
          · rename_i a _; have := h1 (p + n) (some p); simp; omega
          · rename_i a _; have := h1 (p + n) (some a); simp; omega
        · have := h1 (p + n) (some p); simp; omega
theorem us_len : ∀ (n : Nat) (l : List UInt8), l.length ≤ n → (us l).length ≤ l.length
  | 0, l, h => by
    have : l = [] := List.eq_nil_of_length_eq_zero (by omega)
    subst this; simp [us_nil]
  | n + 1, [], _ => by simp [us_nil]
  | n + 1, b :: t, h => by
    rw [us_step (b :: t) (by simp)]
    have hw := decodeL_width (b :: t)
    have h1 := us_len n ((b :: t).drop (decodeL (b :: t)).2) (by rw [List.length_drop]; omega)
    rw [List.length_drop] at h1
    simp only [List.length_cons] at *
    omega
theorem wordsL_len (l : List UInt8) : (wordsL l).length ≤ 2 * l.length + 1 := by
  unfold wordsL
  rw [List.length_map]
  have := wd_len (us l) 0 none
  have := us_len _ l (Nat.le_refl _)
  omega
end Go.Proofs.YtmipmlcolaaonaaDoor
