/- Helper text of this claim: lemmas and contracts that the proved statement rests on; no conditions of its own. -/
import Derived.Test.YtcplagfblmemhaaGreatDoorGMapK
namespace Go.Proofs.YtcplagfblmemhaaGreatDoor
set_option linter.unusedVariables false
set_option maxHeartbeats 1000000
open Go.RowKit Go.Pw Go.Vc Go.Cs Go.Lib
set_option linter.unusedVariables false
set_option maxRecDepth 100000
def boxCells (b : Bx) : List Value := [.int .i64 b.id, .int .i64 b.up, .string (str b.name), .string (str b.role)]
abbrev RowB (w : World) (v : Value) (l : List Bx) : Prop := RowO w v boxCells l
theorem zdk (a b : Int) : (a == b) = decide (a = b) := by by_cases h : a = b <;> simp [h]
def bx0 : Bx := ⟨0, 0, [], []⟩
section
variable {w : World}
theorem zoN (b : Bx) (id : Int) : Calls Tryz.prog 129 #[.agg (boxCells b).toArray, .int .i64 id] w fun e w' => e = .returned (.int .i64 (cmp3 b.id id)) ∧ Kp w w' n_ := by
 refine zaa (args := [.agg #[.int .i64 b.id, .int .i64 b.up, .string (str b.name), .string (str b.role)], .int .i64 id]) Tryz.func129 rfl NL ?_; refine GW ?_
 have k0 : Kp w (w.alloc (.cells (boxCells b).toArray 44)) n_ := (Kp.refl _ _).alloc _
 have hA := zeE (heap_alloc_new w (.cells (boxCells b).toArray 44))
 have c0 : (w.alloc (.cells (boxCells b).toArray 44)).cell? ⟨w.heap.size, 0, none⟩ = some (.int .i64 b.id) := hA 0 _ rfl
 have e1 : w.alloc (.cells #[.int .i64 b.id, .int .i64 b.up, .string (str b.name), .string (str b.role)] 44) = w.alloc (.cells (boxCells b).toArray 44) := rfl
 rw [e1]
 generalize w.alloc (.cells (boxCells b).toArray 44) = w1 at *
 refine KGO ?_
 refine CallS.of (Tryz.call130 _ _) (zqd b.id id) ?_
 rintro e w2 ⟨rfl, rfl⟩
 refine RT ?_
 exact ⟨rfl, k0⟩
theorem zlO (a b : Int) : cmp3 a b < 0 ↔ a < b := by
 unfold cmp3
 split
 ·simp_all
 ·split <;> simp <;> omega
theorem zpS (a b : Int) : cmp3 a b = 0 ↔ a = b := by
 unfold cmp3
 split
 ·simp; omega
 ·split
  ·simp; omega
  ·simp; omega
theorem zqL {l : List Bx} {id : Int} {k : Nat} (hk : k ≤ l.length) (h1 : ∀ m (hm : m < l.length), m < k → l[m].id < id) (h2 : ∀ m (hm : m < l.length), k ≤ m → ¬ l[m].id < id) : idxL l id = k := by
 unfold idxL
 refine zcO _ l k (fun x hx => ?_) hk fun x hx => ?_
 ·obtain ⟨i, hi, rfl⟩ := List.getElem_of_mem hx
  rw [List.length_take] at hi
  rw [List.getElem_take]
  simpa using h1 i (by omega) (by omega)
 ·obtain ⟨hk2, rfl⟩ := List.getElem?_eq_some_iff.1 hx
  simpa using h2 k hk2 (Nat.le_refl _)
theorem ziz {l : List Bx} (h : l.Pairwise fun a b => a.id < b.id) (id : Int) : hasId l id = decide (idxL l id < l.length ∧ (l.getD (idxL l id) bx0).id = id) := by
 obtain ⟨h1, h2⟩ := zhL h id
 have hle : idxL l id ≤ l.length := (List.takeWhile_prefix _).length_le
 rw [Bool.eq_iff_iff, zaw, decide_eq_true_eq]
 constructor
 ·rintro ⟨b, hb, rfl⟩
  rw [← List.take_append_drop (idxL l b.id) l] at hb
  rcases List.mem_append.1 hb with hb | hb
  ·have := h1 b hb; omega
  ·have hlt : idxL l b.id < l.length := by
    rcases Nat.lt_or_ge (idxL l b.id) l.length with q | q
    ·exact q
    ·rw [List.drop_eq_nil_of_le q] at hb; cases hb
   refine ⟨hlt, ?_⟩
   rw [List.getD_eq_getElem?_getD, List.getElem?_eq_getElem hlt]
   have hd : l.drop (idxL l b.id) = l[idxL l b.id] :: l.drop (idxL l b.id + 1) := List.drop_eq_getElem_cons hlt
   have hge := h2 l[idxL l b.id] (by rw [hd]; exact List.mem_cons_self)
   rw [hd] at hb
   rcases List.mem_cons.1 hb with e | hb
   ·rw [← e]; rfl
   ·have hp := h.sublist (List.drop_sublist (idxL l b.id) l)
    rw [hd] at hp
    have := (List.pairwise_cons.1 hp).1 b hb
    show l[idxL l b.id].id = b.id
    omega
 ·rintro ⟨hlt, he⟩
  rw [List.getD_eq_getElem?_getD, List.getElem?_eq_getElem hlt] at he
  exact ⟨l[idxL l id], List.getElem_mem hlt, he⟩
theorem zre {v : Value} (l : List Bx) (id : Int) (hv : RowB w v l) (hl : l.length ≤ 1000000) : Calls Tryz.prog 128 #[v, .int .i64 id, .func (.func 129) #[] #[]] w fun e w' =>
  ∃ (k : Nat) (b : Bool), e = .returned (.tuple #[.int .i64 (k : Nat), .bool b]) ∧ k ≤ l.length ∧ ((l.Pairwise fun a b => a.id < b.id) → k = idxL l id ∧ b = hasId l id) ∧ Kp w w' n_ := by
 obtain ⟨a, cap, rfl, hr⟩ := hv
 refine zaa (args := [.slice a l.length cap, .int .i64 id, .func (.func 129) #[] #[]]) Tryz.func128 rfl NL ?_; refine GW ?_
 refine Loop.intro (ι := Nat × Nat) (fun p => [(0, .slice a l.length cap), (1, .int .i64 id), (2, .func (.func 129) #[] #[]), (8, .int .i64 (l.length : Nat)), (9, .int .i64 p.1), (10, .int .i64 p.2)])
  (fun p wr => Kp w wr n_ ∧ p.1 ≤ p.2 ∧ p.2 ≤ l.length ∧ ((l.Pairwise fun a b => a.id < b.id) → (∀ m (hm : m < l.length), m < p.1 → l[m].id < id) ∧ ∀ m (hm : m < l.length), p.2 ≤ m → ¬ l[m].id < id)) (fun p => p.2 - p.1) (0, l.length) ⟨rfl, rfl, rfl, rfl, rfl, rfl, trivial⟩
  ⟨Kp.refl _ _, by omega, Nat.le_refl _, fun _ => ⟨fun m _ hm => by omega, fun m h1 h2 => by omega⟩⟩ ?_
 rintro ⟨i, j⟩ g wr ⟨hK, hij, hj, hord⟩
 dsimp only at hij hj hord ⊢
 refine GW ?_
 by_cases hlt : i < j
 ·obtain ⟨gb, o, rfl, hgb, hat⟩ := hr (by omega)
  refine KGO ?_
  rw [zie i j (by omega)]
  have hm1 : i ≤ (i + j) / 2 := by omega
  have hm2 : (i + j) / 2 < j := by omega
  generalize (i + j) / 2 = h at *
  have hhl : h < l.length := by omega
  refine KGO ?_
  refine CallS.of (Tryz.call129 _ _) (zoN l[h] id) ?_
  rintro e w1 ⟨rfl, k1⟩
  refine RT ?_
  by_cases hc : cmp3 l[h].id id < 0
  ·refine KGO ?_
   refine ⟨(h + 1, j), ⟨rfl, rfl, rfl, rfl, v_int (by simp), rfl, trivial⟩, ⟨hK.trans0 k1, by dsimp only; omega, hj, fun hp => ⟨fun m hm hmh => ?_, (hord hp).2⟩⟩, by dsimp only; omega⟩
   dsimp only at hmh
   have hlh := (zlO _ _).1 hc
   by_cases e : m = h
   ·subst e; exact hlh
   ·have := (List.pairwise_iff_getElem.1 hp) m h hm hhl (by omega); omega
  ·refine KGO ?_
   refine ⟨(i, h), ⟨rfl, rfl, rfl, rfl, rfl, rfl, trivial⟩, ⟨hK.trans0 k1, by dsimp only; omega, by dsimp only; omega, fun hp => ⟨(hord hp).1, fun m hm hmh => ?_⟩⟩, by dsimp only; omega⟩
   dsimp only at hmh
   have hlh : ¬ l[h].id < id := fun q => hc ((zlO _ _).2 q)
   by_cases e : m = h
   ·subst e; exact hlh
   ·have := (List.pairwise_iff_getElem.1 hp) h m hhl hm (by omega); omega
 ·have hji : j = i := by omega
  subst hji
  have hidx : ∀ hp : l.Pairwise fun a b => a.id < b.id, idxL l id = j := fun hp => zqL hj (hord hp).1 (hord hp).2
  by_cases h17 : j < l.length
  ·obtain ⟨gb, o, rfl, hgb, hat⟩ := hr (by omega)
   refine KGO ?_
   refine CallS.of (Tryz.call129 _ _) (zoN l[j] id) ?_
   rintro e w1 ⟨rfl, k1⟩
   refine RT ?_
   refine KGO ?_
   refine ⟨j, _, rfl, hj, fun hp => ⟨(hidx hp).symm, ?_⟩, hK.trans0 k1⟩
   rw [ziz hp, hidx hp, List.getD_eq_getElem?_getD, List.getElem?_eq_getElem h17]
   have e : (cmp3 l[j].id id == 0) = decide (l[j].id = id) := by
    rw [Bool.eq_iff_iff, beq_iff_eq, decide_eq_true_eq, zpS]
   rw [e]
   simp [h17]
  ·refine KGO ?_
   refine ⟨j, _, rfl, hj, fun hp => ⟨(hidx hp).symm, ?_⟩, hK⟩
   rw [ziz hp, hidx hp]
   simp [h17]
theorem zbQ {v : Value} (l : List Bx) (id : Int) (hv : RowB w v l) (hl : l.length ≤ 1000000) : Calls Tryz.prog 80 #[v, .int .i64 id] w fun e w' =>
  ∃ (k : Nat) (b : Bool), e = .returned (.tuple #[.int .i64 (k : Nat), .bool b]) ∧ k ≤ l.length ∧ ((l.Pairwise fun a b => a.id < b.id) → k = idxL l id ∧ b = hasId l id) ∧ Kp w w' n_ := by
 have hv0 := hv
 obtain ⟨a, cap, rfl, hr⟩ := hv
 refine zaa (args := [.slice a l.length cap, .int .i64 id]) Tryz.func80 rfl NL ?_; refine GW ?_
 refine CallS.of (Tryz.call128 _ _) (zre l id hv0 hl) ?_
 rintro e w1 ⟨k, b, rfl, h1, h2, k1⟩
 refine RT ?_
 exact ⟨k, b, rfl, h1, h2, k1⟩
theorem zme {v : Value} (l : List Bx) (id : Int) (hv : RowB w v l) (hl : l.length ≤ 1000000) (ha : l.Pairwise fun a b => a.id < b.id) : Calls Tryz.prog 86 #[v, .int .i64 id] w fun e w' => e = .returned (.bool (decide (id = 0 ∨ hasId l id = true))) ∧ Kp w w' n_ := by
 have hv0 := hv
 obtain ⟨a, cap, rfl, hr⟩ := hv
 refine zaa (args := [.slice a l.length cap, .int .i64 id]) Tryz.func86 rfl NL ?_; refine GW ?_
 refine CallS.of (Tryz.call80 _ _) (zbQ l id hv0 hl) ?_
 rintro e w1 ⟨k, b, rfl, h1, h2, k1⟩
 obtain ⟨rfl, rfl⟩ := h2 ha
 refine RT ?_
 cases hh : hasId l id with
 | true =>
  refine KGO ?_
  exact ⟨zag (by simp), k1⟩
 | false =>
  refine KGO ?_
  exact ⟨zag (by rw [Bool.eq_iff_iff]; simp), k1⟩
theorem zhU {l : List Bx} (h : l.Pairwise fun a b => a.id < b.id) {b : Bx} (hb : b ∈ l) : ∃ hk : idxL l b.id < l.length, l[idxL l b.id] = b := by
 have := (zaw l b.id).2 ⟨b, hb, rfl⟩
 rw [ziz h, decide_eq_true_eq] at this
 obtain ⟨h1, h2⟩ := this
 refine ⟨h1, ?_⟩
 rw [List.getD_eq_getElem?_getD, List.getElem?_eq_getElem h1] at h2
 exact zcV h (List.getElem_mem h1) hb h2
theorem zeu {l : List Bx} (b : Int) : ∀ (n d : Nat) (id : Int), Dep l d id → d ≤ n → withinN l n id b = withinN l d id b
 | 0, d, id, h, hn => by
  obtain rfl : d = 0 := by omega
  rfl
 | n + 1, 0, id, h, hn => by
  have h0 : id = 0 := h
  simp [withinN, h0]
 | n + 1, d + 1, id, ⟨h0, u, hu, h⟩, hn => by
  unfold withinN
  rw [hu]
  dsimp only
  rw [zeu b n d u h (by omega)]
theorem zfu {v : Value} (l : List Bx) (id b : Int) (hv : RowB w v l) (hr : RightP l) {d : Nat} (hd : Dep l d id) : Calls Tryz.prog 153 #[v, .int .i64 id, .int .i64 b] w fun e w' => e = .returned (.bool (within l id b)) ∧ Kp w w' n_ := by
 have hv0 := hv
 have hlen := hr.len
 obtain ⟨a, cap, rfl, hr2⟩ := hv
 refine zaa (args := [.slice a l.length cap, .int .i64 id, .int .i64 b]) Tryz.func153 rfl NL ?_; refine GW ?_
 refine Loop.intro (ι := Int × Nat) (fun p => [(0, .slice a l.length cap), (1, .int .i64 p.1), (2, .int .i64 b)])
  (fun p wr => Kp w wr n_ ∧ Dep l p.2 p.1 ∧ within l id b = withinN l p.2 p.1 b) (fun p => p.2) (id, d) ⟨rfl, rfl, rfl, trivial⟩ ⟨Kp.refl _ _, hd, zeu b _ d id hd hd.len⟩ ?_
 rintro ⟨x, n⟩ g wr ⟨hK, hx, he⟩
 dsimp only at hx he ⊢
 refine GW ?_
 by_cases h0 : x = 0
 ·refine KGO ?_
  refine ⟨zag ?_, hK⟩
  rw [he]
  cases n with
  | zero => rw [withinN, zdk]
  | succ n => rw [withinN, if_pos (.inl h0), zdk]
 by_cases hb : x = b
 ·refine KGO ?_
  refine ⟨zag ?_, hK⟩
  rw [he]
  cases n with
  | zero => rw [withinN, zdk]
  | succ n => rw [withinN, if_pos (.inr hb), zdk]
 cases n with
 | zero => exact absurd hx h0
 | succ n =>
  obtain ⟨_, u, hu, hn⟩ := hx
  obtain ⟨c, hc, rfl, rfl⟩ := zbI hu
  obtain ⟨hk1, hk2⟩ := zhU hr.asc hc
  rw [withinN, if_neg (by simp [h0, hb]), hu] at he
  dsimp only at he
  refine KGO ?_
  refine CallS.of (Tryz.call80 _ _) (zbQ l c.id (hv0.keep hK) (by omega)) ?_
  rintro e w1 ⟨k, q, rfl, h1, h2, k1⟩
  obtain ⟨rfl, rfl⟩ := h2 hr.asc
  obtain ⟨gb, o, rfl, hgb, hat⟩ := hr2 (by omega)
  have K1 := hK.trans0 k1
  refine RT ?_
  refine KGO ?_
  rw [hk2]
  exact ⟨(c.up, n), ⟨rfl, rfl, rfl, trivial⟩, ⟨K1, hn, he⟩, by dsimp only; omega⟩
theorem zcb {v : Value} (l : List Bx) (id : Int) (hv : RowB w v l) (hr : RightP l) {d : Nat} (hd : Dep l d id) : Calls Tryz.prog 87 #[v, .int .i64 id] w fun e w' => e = .returned (.int .i64 (d : Nat)) ∧ Kp w w' n_ := by
 have hv0 := hv
 have hlen := hr.len
 have hdl := hd.len
 obtain ⟨a, cap, rfl, hr2⟩ := hv
 refine zaa (args := [.slice a l.length cap, .int .i64 id]) Tryz.func87 rfl NL ?_; refine GW ?_
 refine Loop.intro (ι := Int × Nat × Nat) (fun p => [(0, .slice a l.length cap), (1, .int .i64 p.1), (5, .int .i64 (p.2.2 : Nat))])
  (fun p wr => Kp w wr n_ ∧ Dep l p.2.1 p.1 ∧ p.2.2 + p.2.1 = d) (fun p => p.2.1) (id, d, 0) ⟨rfl, rfl, rfl, trivial⟩ ⟨Kp.refl _ _, hd, by dsimp only; omega⟩ ?_
 rintro ⟨x, n, m⟩ g wr ⟨hK, hx, he⟩
 dsimp only at hx he ⊢
 refine GW ?_
 cases n with
 | zero =>
  have h0 : x = 0 := hx
  refine KGO ?_
  exact ⟨zgG (by omega), hK⟩
 | succ n =>
  obtain ⟨h0, u, hu, hn⟩ := hx
  obtain ⟨c, hc, rfl, rfl⟩ := zbI hu
  obtain ⟨hk1, hk2⟩ := zhU hr.asc hc
  refine KGO ?_
  refine CallS.of (Tryz.call80 _ _) (zbQ l c.id (hv0.keep hK) (by omega)) ?_
  rintro e w1 ⟨k, q, rfl, h1, h2, k1⟩
  obtain ⟨rfl, rfl⟩ := h2 hr.asc
  obtain ⟨gb, o, rfl, hgb, hat⟩ := hr2 (by omega)
  have K1 := hK.trans0 k1
  refine RT ?_
  refine KGO ?_
  rw [hk2]
  exact ⟨(c.up, n, m + 1), ⟨rfl, rfl, v_int (by simp), trivial⟩, ⟨K1, hn, by dsimp only; omega⟩, by dsimp only; omega⟩
end
end Go.Proofs.YtcplagfblmemhaaGreatDoor
namespace Go.Cs
set_option linter.unusedVariables false
set_option maxHeartbeats 1000000
open Go.Lib
set_option linter.unusedVariables false
def badR (r : Nat) : Prop := r < 32 ∨ r = 127 ∨ r = 47
instance (r : Nat) : Decidable (badR r) := by unfold badR; infer_instance
theorem zng : ∀ c : Fin 128, (fineB (UInt8.ofNat c.val) = false ↔ badR c.val) := by decide +kernel
theorem zlH (b : UInt8) (h : 128 ≤ b.toNat) : fineB b = true := by
 unfold fineB
 rw [decide_eq_false (by omega), decide_eq_false (by omega), decide_eq_false (by omega)]; rfl
theorem zjM (c : Nat) (h : scal c) : (∃ b ∈ enc c, fineB b = false) ↔ badR c := by
 by_cases h1 : c < 128
 ·have : enc c = [UInt8.ofNat c] := by
   unfold enc encodeRune
   rw [encodeRuneZ_one (by omega) (by omega)]
   simp only [List.map_cons, List.map_nil, Int.toNat_natCast]
  rw [this]
  simpa using zng ⟨c, h1⟩
 ·constructor
  ·rintro ⟨b, hb, hf⟩
   exfalso
   have key : ∀ x ∈ enc c, 128 ≤ x.toNat := by
    unfold scal at h
    unfold enc encodeRune
    by_cases h2 : c ≤ 2047
    ·rw [encodeRuneZ_two (by omega) (by omega)]
     intro x hx
     simp only [List.map_cons, List.map_nil, List.mem_cons, List.not_mem_nil, or_false] at hx
     rcases hx with rfl | rfl <;> (rw [u8n _ (by omega)]; omega)
    by_cases h3 : c ≤ 65535
    ·rw [encodeRuneZ_three (by omega)]
     intro x hx
     simp only [List.map_cons, List.map_nil, List.mem_cons, List.not_mem_nil, or_false] at hx
     rcases hx with rfl | rfl | rfl <;> (rw [u8n _ (by omega)]; omega)
    ·rw [encodeRuneZ_four (by omega) (by omega)]
     intro x hx
     simp only [List.map_cons, List.map_nil, List.mem_cons, List.not_mem_nil, or_false] at hx
     rcases hx with rfl | rfl | rfl | rfl <;> (rw [u8n _ (by omega)]; omega)
   rw [zlH b (key b hb)] at hf; cases hf
  ·intro hb; unfold badR at hb; omega
theorem zka (s : List UInt8) (h : validD s = true) : (∃ r ∈ runes s, badR r) ↔ ∃ b ∈ s, fineB b = false := by
 have he : encs (runes s) = s := zeU s h
 constructor
 ·rintro ⟨r, hr, hb⟩
  obtain ⟨b, hb1, hb2⟩ := (zjM r (zge s r hr)).2 hb
  refine ⟨b, ?_, hb2⟩
  rw [← he]
  unfold encs
  exact List.mem_flatMap.2 ⟨r, hr, hb1⟩
 ·rintro ⟨b, hb, hf⟩
  rw [← he] at hb
  unfold encs at hb
  obtain ⟨r, hr, hb⟩ := List.mem_flatMap.1 hb
  exact ⟨r, hr, (zjM r (zge s r hr)).1 ⟨b, hb, hf⟩⟩
theorem zih (s : List UInt8) (h1 : 1 ≤ s.length) (h2 : s.length ≤ 100) (h3 : validD s = true) : namedB s = !decide (∃ r ∈ runes s, badR r) := by
 rw [Bool.eq_iff_iff, zcr]
 simp only [Bool.not_eq_true', decide_eq_false_iff_not]
 rw [zka s h3]
 constructor
 ·rintro ⟨_, _, _, h⟩ ⟨b, hb, hf⟩
  rw [h b hb] at hf; cases hf
 ·intro h
  refine ⟨h1, h2, h3, fun b hb => ?_⟩
  cases hf : fineB b with
  | true => rfl
  | false => exact absurd ⟨b, hb, hf⟩ h
end Go.Cs
namespace Go.Proofs.YtcplagfblmemhaaGreatDoor
set_option linter.unusedVariables false
set_option maxHeartbeats 1000000
open Go.RowKit Go.Pw Go.Vc Go.Cs Go.Lib
set_option linter.unusedVariables false
set_option maxRecDepth 100000
section
variable {w : World}
theorem zqO (r : Nat) (hr : r ≤ 1114111) : Calls Tryz.prog 135 #[.int .i32 (r : Nat)] w fun e w' => e = .returned (.bool (decide (badR r))) ∧ w = w' := by
 refine zaa (args := [.int .i32 (r : Nat)]) Tryz.func135 rfl NL ?_; refine GW ?_
 by_cases h1 : r < 32
 ·refine KGO ?_
  exact ⟨zag (decide_eq_true (show badR r from .inl h1)).symm, rfl⟩
 by_cases h2 : r = 127
 ·refine KGO ?_
  exact ⟨zag (decide_eq_true (show badR r from .inr (.inl h2))).symm, rfl⟩
 refine KGO ?_
 refine ⟨zag ?_, rfl⟩
 have hb : badR r ↔ r = 47 := by unfold badR; omega
 rw [Bool.eq_iff_iff, beq_iff_eq, decide_eq_true_eq, hb]
 omega
theorem zod (s : ByteArray) (hs : s.size ≤ 100000000) : Calls Tryz.prog 187 #[.string s, .func (.func 135) #[] #[], .bool true] w fun e w' => ∃ z : Int, e = .returned (.int .i64 z) ∧ (0 ≤ z ↔ ∃ r ∈ runes (L s), badR r) ∧ Kp w w' n_ := by
 have hl := L_len s
 refine zaa (args := [.string s, .func (.func 135) #[] #[], .bool true]) Tryz.func187 rfl NL ?_; refine GW ?_
 refine RunV.rangeS Tryz.underlying9 ?_
 refine GW ?_
 have hi0 : (w.alloc (.stringIter s 0)).heap[w.heap.size]? = some (.stringIter s 0) := heap_alloc_new _ _
 have K1 : Kp w (w.alloc (.stringIter s 0)) n_ := (Kp.refl _ _).alloc _
 generalize w.alloc (.stringIter s 0) = w1 at *
 refine Loop.intro (ι := Nat) (fun i => [(0, .string s), (1, .func (.func 135) #[] #[]), (2, .bool true), (10, .pointer (some ⟨w.heap.size, 0, none⟩))])
  (fun n wr => Kp w wr n_ ∧ n ≤ s.size ∧ wr.heap[w.heap.size]? = some (.stringIter s n) ∧ ((∃ r ∈ runes (L s), badR r) ↔ ∃ r ∈ runes ((L s).drop n), badR r)) (fun n => s.size - n) 0 ⟨rfl, rfl, rfl, rfl, trivial⟩
  ⟨K1, Nat.zero_le _, hi0, Iff.rfl⟩ ?_
 rintro n g wr ⟨hK, hn, hi, he⟩
 refine GW ?_
 by_cases hlt : n < s.size
 ·refine RunV.nextS hi hlt ?_
  have hne : (L s).drop n ≠ [] := by rw [← L_from]; exact L_ne (by simp; omega)
  have hw := decodeL_width ((L s).drop n)
  have hle := decodeL_le _ hne
  have hru := decodeL_rune ((L s).drop n)
  rw [List.length_drop] at hle
  rw [zed _ hne, List.drop_drop] at he
  have hi2 : (setO wr w.heap.size (.stringIter s (n + (decodeL ((L s).drop n)).2))).heap[w.heap.size]? = some (.stringIter s (n + (decodeL ((L s).drop n)).2)) := zeM _ (zbT hi)
  have K2 : Kp w (setO wr w.heap.size (.stringIter s (n + (decodeL ((L s).drop n)).2))) n_ := hK.trans (zbO _) fun i hi h => by have h : i = w.heap.size := h; omega
  generalize setO wr w.heap.size (.stringIter s (n + (decodeL ((L s).drop n)).2)) = w2 at *
  generalize (decodeL ((L s).drop n)).2 = k at *
  generalize (decodeL ((L s).drop n)).1 = r at *
  refine KGO ?_
  refine CallS.of (Tryz.call135 _ _) (zqO (w := w2) r (by omega)) ?_
  rintro e w3 ⟨rfl, rfl⟩
  refine RT ?_
  by_cases hb : badR r
  ·rw [decide_eq_true hb]
   refine KGO ?_
   exact ⟨_, rfl, ⟨fun _ => he.2 ⟨r, by simp, hb⟩, fun _ => by omega⟩, K2⟩
  ·rw [decide_eq_false hb]
   refine KGO ?_
   refine ⟨n + k, ⟨rfl, rfl, rfl, rfl, trivial⟩, ⟨K2, by omega, hi2, he.trans ⟨?_, ?_⟩⟩, by dsimp only; omega⟩
   ·rintro ⟨x, hx, hxb⟩
    rcases List.mem_cons.1 hx with rfl | hx
    ·exact absurd hxb hb
    ·exact ⟨x, hx, hxb⟩
   ·rintro ⟨x, hx, hxb⟩
    exact ⟨x, List.mem_cons_of_mem _ hx, hxb⟩
 ·refine RunV.nextE hi hlt ?_
  refine KGO ?_
  refine ⟨_, rfl, ⟨fun h => by omega, fun h => ?_⟩, hK⟩
  rw [List.drop_eq_nil_of_le (by omega)] at he
  obtain ⟨r, hr, _⟩ := he.1 h
  cases hr
theorem ziP (s : ByteArray) (hs : s.size ≤ 100000000) : Calls Tryz.prog 134 #[.string s, .func (.func 135) #[] #[]] w fun e w' => e = .returned (.bool (decide (∃ r ∈ runes (L s), badR r))) ∧ Kp w w' n_ := by
 have hi : ∀ w : World, Calls Tryz.prog 174 #[.string s, .func (.func 135) #[] #[]] w fun e w' => ∃ z : Int, e = .returned (.int .i64 z) ∧ (0 ≤ z ↔ ∃ r ∈ runes (L s), badR r) ∧ Kp w w' n_ := fun w => by
  refine zaa (args := [.string s, .func (.func 135) #[] #[]]) Tryz.func174 rfl NL ?_; refine GW ?_
  refine CallS.of (Tryz.call187 _ _) (zod s hs) ?_
  rintro e w1 ⟨z, rfl, hz, k1⟩
  refine RT ?_
  exact ⟨z, rfl, hz, k1⟩
 refine zaa (args := [.string s, .func (.func 135) #[] #[]]) Tryz.func134 rfl NL ?_; refine GW ?_
 refine CallS.of (Tryz.call174 _ _) (hi w) ?_
 rintro e w1 ⟨z, rfl, hz, k1⟩
 refine RT ?_
 refine ⟨zag ?_, k1⟩
 rw [Bool.eq_iff_iff, decide_eq_true_eq, decide_eq_true_eq]
 exact hz
theorem zeQ (s : ByteArray) (hT : Tabs w) (hs : s.size ≤ 140737488355328) : Calls Tryz.prog 82 #[.string s] w fun e w' => e = .returned (.bool (namedB (L s))) ∧ Kp w w' n_ := by
 have hl := L_len s
 have hno : ∀ (h : ¬ (1 ≤ (L s).length ∧ (L s).length ≤ 100 ∧ validD (L s) = true)), namedB (L s) = false := fun h => by
  cases hn : namedB (L s) with
  | false => rfl
  | true =>
   have := (zcr (L s)).1 hn
   exact absurd ⟨this.1, this.2.1, this.2.2.1⟩ h
 refine zaa (args := [.string s]) Tryz.func82 rfl NL ?_; refine GW ?_
 by_cases h1 : s.size < 1
 ·refine KGO ?_
  exact ⟨zag (hno (by omega)).symm, Kp.refl _ _⟩
 by_cases h2 : 100 < s.size
 ·refine KGO ?_
  exact ⟨zag (hno (by omega)).symm, Kp.refl _ _⟩
 refine KGO ?_
 refine CallS.of (Tryz.call133 _ _) (znT s hT (by omega)) ?_
 rintro e w1 ⟨rfl, k1⟩
 refine RT ?_
 by_cases h3 : validD (L s) = true
 ·rw [h3]
  refine KGO ?_
  refine CallS.of (Tryz.call134 _ _) (ziP (w := w1) s (by omega)) ?_
  rintro e w2 ⟨rfl, k2⟩
  refine RT ?_
  exact ⟨zag (zih (L s) (by omega) (by omega) h3).symm, k1.trans0 k2⟩
 ·rw [show validD (L s) = false by simpa using h3]
  refine KGO ?_
  exact ⟨zag (hno fun h => h3 h.2.2).symm, k1⟩
def RolesTab (w : World) : Prop := ∃ b o c, w.cell? ⟨0, 0, none⟩ = some (.slice (some ⟨b, o, none⟩) 7 c) ∧ b < w.heap.size ∧ At w b o (rolesL.map sv)
theorem RolesTab.keep {w' : World} (h : RolesTab w) (k : Kp w w' n_) : RolesTab w' := by
 obtain ⟨b, o, c, h1, h2, h3⟩ := h
 exact ⟨b, o, c, zao h1 k, Nat.lt_of_lt_of_le h2 k.size, zaf h3 k⟩
theorem zly {v : Value} (l : List (List UInt8)) (s : List UInt8) (hv : RowO w v (fun x => [sv x]) l) (hl : l.length ≤ 8796093022208) : Calls Tryz.prog 136 #[v, .string (str s)] w fun e w' => ∃ z : Int, e = .returned (.int .i64 z) ∧ (0 ≤ z ↔ s ∈ l) ∧ Kp w w' n_ := by
 obtain ⟨a, cap, rfl, hr⟩ := hv
 refine zaa (args := [.slice a l.length cap, .string (str s)]) Tryz.func136 rfl NL ?_; refine GW ?_
 refine Loop.intro (ι := Nat) (fun i => [(0, .slice a l.length cap), (1, .string (str s)), (7, .int .i64 (l.length : Nat)), (8, .int .i64 (i : Nat))])
  (fun i wr => Kp w wr n_ ∧ i ≤ l.length ∧ (s ∈ l ↔ s ∈ l.drop i)) (fun i => l.length - i) 0 ⟨rfl, rfl, rfl, rfl, trivial⟩ ⟨Kp.refl _ _, Nat.zero_le _, Iff.rfl⟩ ?_
 rintro i g wr ⟨hK, hi, he⟩
 refine GW ?_
 by_cases hlt : i < l.length
 ·obtain ⟨gb, o, rfl, hgb, hat⟩ := hr (by omega)
  have hd := List.drop_eq_getElem_cons hlt
  have c0 : w.cell? ⟨gb, o + i, none⟩ = some (.string (str l[i])) := zbC hat (fun _ => rfl) hlt 0 _ rfl |> fun h => by simpa [sv] using h
  generalize l[i] = x at *
  refine KGO ?_
  by_cases hx : s = x
  ·have hxx : decide (str s = str x) = true := by simp [hx]
   refine KGO ?_
   exact ⟨_, rfl, ⟨fun _ => he.2 (by rw [hd, hx]; simp), fun _ => by omega⟩, hK⟩
  ·have hxx : decide (str s = str x) = false := by simp [zfW, hx]
   refine KGO ?_
   refine ⟨i + 1, ⟨rfl, rfl, rfl, v_int (by simp), trivial⟩, ⟨hK, by omega, ?_⟩, by dsimp only; omega⟩
   rw [he, hd]
   simp [hx]
 ·refine KGO ?_
  refine ⟨_, rfl, ⟨fun h => by omega, fun h => ?_⟩, hK⟩
  rw [he, List.drop_eq_nil_of_le (by omega)] at h
  cases h
theorem zdS {v : Value} (l : List (List UInt8)) (s : List UInt8) (hv : RowO w v (fun x => [sv x]) l) (hl : l.length ≤ 8796093022208) : Calls Tryz.prog 83 #[v, .string (str s)] w fun e w' => e = .returned (.bool (decide (s ∈ l))) ∧ Kp w w' n_ := by
 have hv0 := hv
 obtain ⟨a, cap, rfl, hr⟩ := hv
 refine zaa (args := [.slice a l.length cap, .string (str s)]) Tryz.func83 rfl NL ?_; refine GW ?_
 refine CallS.of (Tryz.call136 _ _) (zly l s hv0 hl) ?_
 rintro e w1 ⟨z, rfl, hz, k1⟩
 refine RT ?_
 refine ⟨zag ?_, k1⟩
 rw [Bool.eq_iff_iff, decide_eq_true_eq, decide_eq_true_eq]
 exact hz
end
def locCells (p : Int × List UInt8) : List Value := [.int .i64 p.1, .string (str p.2)]
def encLoc (p : Int × List UInt8) : Value := .agg (locCells p).toArray
theorem locFields : ∃ a b, (Tryz.prog.fieldsOf 201).toList = [a, b] ∧ a.name ≠ "_" ∧ b.name ≠ "_" ∧ a.type = 3 ∧ b.type = 9 ∧ a.offset = 0 ∧ b.offset = 1 :=
 ⟨_, _, rfl, by decide, by decide, rfl, rfl, rfl, rfl⟩
theorem zeT (x y : List UInt8) : ((str x).toList == (str y).toList) = decide (x = y) := by
 rw [zeh]
 by_cases h : x = y
 ·simp [h]
 ·have : str x ≠ str y := fun e => h (by have := congrArg L e; rwa [L_str, L_str] at this)
  simp [h, this]
theorem zqG (x y : Int × List UInt8) (w : World) : (Op.equalIn (9999 + 1) 201 (encLoc x) (encLoc y)).run Tryz.prog w = .ok (decide (x = y)) w := by
 unfold encLoc
 rw [run_equalIn_agg w 9999 201 _ _ (by rfl) (by kernel_rfl)]
 obtain ⟨a, b, hf, na, nb, ta, tb, oa, ob⟩ := locFields
 rw [hf]
 simp only [Op.eqFields, na, nb, ne_eq, not_false_eq_true, if_true, ta, tb, oa, ob]
 have p0 : (part 3 (locCells x).toArray 0).run Tryz.prog w = .ok (.int .i64 x.1) w := by rfl
 have p1 : (part 9 (locCells x).toArray 1).run Tryz.prog w = .ok (.string (str x.2)) w := by rfl
 have q0 : (part 3 (locCells y).toArray 0).run Tryz.prog w = .ok (.int .i64 y.1) w := by rfl
 have q1 : (part 9 (locCells y).toArray 1).run Tryz.prog w = .ok (.string (str y.2)) w := by rfl
 have i1 (a b : Int) : (Op.equalIn (9998 + 1) 3 (.int .i64 a) (.int .i64 b)).run Tryz.prog w = .ok (a == b) w := run_equalIn_int w 9998 3 .i64 .i64 a b (by rfl)
 have i2 (a b : ByteArray) : (Op.equalIn (9998 + 1) 9 (.string a) (.string b)).run Tryz.prog w = .ok (a.toList == b.toList) w := run_equalIn_string w 9998 9 a b (by rfl)
 simp only [Sem.run_bind, Sem.run_ite, p0, p1, q0, q1, i1, i2, Result.andThen_ok]
 obtain ⟨x1, x2⟩ := x
 obtain ⟨y1, y2⟩ := y
 dsimp only
 rw [zeT]
 by_cases h1 : x1 = y1 <;> by_cases h2 : x2 = y2 <;> simp [h1, h2]
theorem keyLoc : KeyOk Tryz.prog 201 encLoc := zhV Tryz.underlying201 (fun _ _ => rfl) (fun w a b => zqG a b w) (fun e k w => by
  show (Instr.checkKey e (9999 + 1) 201 (.agg (locCells k).toArray)).run Tryz.prog w = _
  have p0 : (part 3 (locCells k).toArray 0).run Tryz.prog w = .ok (.int .i64 k.1) w := by rfl
  have p1 : (part 9 (locCells k).toArray 1).run Tryz.prog w = .ok (.string (str k.2)) w := by rfl
  have c0 : ∀ z, (Instr.checkKey e 9999 3 (.int .i64 z)).run Tryz.prog w = .ok () w := fun z => by
   show (Instr.checkKey e (9998 + 1) 3 _).run Tryz.prog w = _
   unfold Instr.checkKey
   simp [zaA Tryz.underlying3]
  have c1 : ∀ s, (Instr.checkKey e 9999 9 (.string s)).run Tryz.prog w = .ok () w := fun s => by
   show (Instr.checkKey e (9998 + 1) 9 _).run Tryz.prog w = _
   unfold Instr.checkKey
   simp [zaA Tryz.underlying9]
  unfold Instr.checkKey
  simp [zaA Tryz.underlying201, p0, p1, c0, c1]) (fun k => by simp [encLoc, locCells, Instr.sameBits, zhh])
theorem keyInt : KeyOk Tryz.prog 3 (Value.int .i64) := zmc Tryz.underlying3
def encS (s : List UInt8) : Value := .string (str s)
theorem keyStr : KeyOk Tryz.prog 9 encS where
 check e k w := (zib Tryz.underlying9).check e (str k) w
 find := zhc Tryz.underlying9 fun a b => by
  show some (str a == str b) = _
  rw [zhh]
  congr 1
  rw [Bool.eq_iff_iff, decide_eq_true_eq, decide_eq_true_eq, zfW]
 bits k := (zib Tryz.underlying9).bits (str k)
def upsM (l : List Bx) : GM Int := l.map fun b => (b.id, .int .i64 b.up)
def locM (l : List Bx) : GM (Int × List UInt8) := l.map fun b => ((b.up, foldL b.name), .int .i64 b.id)
theorem zcZ (id : Int) : ∀ l, (upsM l).get id = (upOf l id).map (Value.int .i64)
 | [] => rfl
 | b :: l => by
  show GM.get ((b.id, .int .i64 b.up) :: upsM l) id = _
  unfold GM.get upOf
  by_cases h : id = b.id
  ·rw [if_pos h, List.find?_cons_of_pos (by simp [h])]; rfl
  ·rw [if_neg h, List.find?_cons_of_neg (by simp; exact fun e => h e.symm), zcZ id l]; rfl
theorem zcB (u : Int) (nm : List UInt8) : ∀ l, (locM l).get (u, nm) = (kid l u nm).map (Value.int .i64)
 | [] => rfl
 | b :: l => by
  show GM.get (((b.up, foldL b.name), .int .i64 b.id) :: locM l) (u, nm) = _
  unfold GM.get kid
  by_cases h : (u, nm) = (b.up, foldL b.name)
  ·rw [if_pos h, List.find?_cons_of_pos (by simp at h; simp [h])]; rfl
  ·rw [if_neg h, List.find?_cons_of_neg (by simp at h; simp; exact fun e1 e2 => h e1.symm e2.symm), zcB u nm l]; rfl
theorem _root_.Go.Vc.GM.put_new {κ : Type} [DecidableEq κ] {m : GM κ} {k : κ} (h : m.get k = none) (x : Value) : m.put k x = m ++ [(k, x)] := by
 have h1 := GM.idx_get k m 0
 rw [h] at h1
 exact (GM.idx_none k m 0 (Option.map_eq_none_iff.1 h1)).2.1 x
theorem zjE {l : List Bx} {u : Int} {nm : List UInt8} : kid l u nm = none ↔ ∀ b ∈ l, ¬ (b.up = u ∧ foldL b.name = nm) := by
 unfold kid
 rw [Option.map_eq_none_iff, List.find?_eq_none]
 simp
def UsedM (l : List Bx) (m : GM (List UInt8)) : Prop := ∀ r, (∃ x : Int, x ≠ 0 ∧ m.get r = some (.int .i64 x) ∧ ∃ b ∈ l, b.role = r) ∨ (m.get r = none ∧ ∀ b ∈ l, b.role ≠ r)
theorem UsedM.put {l : List Bx} {m : GM (List UInt8)} (h : UsedM l m) (b : Bx) (hb : b.id ≠ 0) : UsedM (l ++ [b]) (m.put b.role (.int .i64 b.id)) := fun r => by
 rw [GM.get_put]
 by_cases e : r = b.role
 ·left
  rw [if_pos e]
  exact ⟨b.id, hb, rfl, b, by simp, e.symm⟩
 ·rw [if_neg e]
  rcases h r with ⟨x, h1, h2, c, hc, h3⟩ | ⟨h1, h2⟩
  ·exact .inl ⟨x, h1, h2, c, by simp [hc], h3⟩
  ·refine .inr ⟨h1, fun c hc => ?_⟩
   rcases List.mem_append.1 hc with hc | hc
   ·exact h2 c hc
   ·rw [List.mem_singleton.1 hc]; exact fun q => e q.symm
section
variable {w : World}
theorem zpr {bm : Nat} (l : List Bx) (id : Int) (hm : GMap (Value.int .i64) w bm (upsM l)) (h0 : id ≠ 0) (hl : l.length ≤ 1000) : Calls Tryz.prog 132 #[.map (some bm), .int .i64 id] w fun e w' => e = .returned (.int .i64 ((dep l l.length id).getD 0 : Nat)) ∧ Kp w w' n_ := by
 have hlen : (upsM l).length = l.length := by unfold upsM; rw [List.length_map]
 have zi : (zeroValue 3).run Tryz.prog w = .ok (.int .i64 0) w := Tryz.zeroValue3 w
 refine zaa (args := [.map (some bm), .int .i64 id]) Tryz.func132 rfl NL ?_; refine GW ?_
 refine Loop.intro (ι := Nat × Int) (fun p => [(0, .map (some bm)), (1, .int .i64 p.2), (5, .int .i64 ((p.1 : Nat) + 1 : Int))])
  (fun p wr => Kp w wr n_ ∧ p.1 ≤ l.length ∧ p.2 ≠ 0 ∧ (dep l l.length id).getD 0 = ((dep l (l.length - p.1) p.2).map (· + p.1)).getD 0) (fun p => l.length - p.1) (0, id) ⟨rfl, rfl, rfl, trivial⟩
  ⟨Kp.refl _ _, Nat.zero_le _, h0, by dsimp only; rw [Nat.sub_zero]; cases dep l l.length id <;> rfl⟩ ?_
 rintro ⟨n, x⟩ g wr ⟨hK, hn, hx, he⟩
 dsimp only at hn hx he ⊢
 have zi : (zeroValue 3).run Tryz.prog wr = .ok (.int .i64 0) wr := Tryz.zeroValue3 wr
 refine GW ?_
 refine RunN.lenG Tryz.underlying196 (hm.keep hK fun h => h) ?_
 refine GW ?_
 by_cases hlt : n < l.length
 ·obtain ⟨f, hf⟩ : ∃ f, l.length - n = f + 1 := ⟨l.length - n - 1, by omega⟩
  rw [hf, dep, if_neg hx] at he
  refine KGO ?_
  refine RunV.lookG2 keyInt Tryz.underlying196 zi (hm.keep hK fun h => h) x rfl ?_
  rw [zcZ]
  cases hu : upOf l x with
  | none =>
   rw [hu] at he
   dsimp only at he
   refine KGO ?_
   exact ⟨by rw [he]; rfl, hK⟩
  | some u =>
   rw [hu] at he
   dsimp only at he
   by_cases hu0 : u = 0
   ·subst hu0
    refine KGO ?_
    refine ⟨zgG ?_, hK⟩
    rw [he]
    have : dep l f 0 = some 0 := by cases f <;> rfl
    rw [this]
    show ((n : Nat) : Int) + 1 = ((0 + 1 + n : Nat) : Int)
    omega
   ·refine KGO ?_
    refine ⟨(n + 1, u), ⟨rfl, rfl, v_int (by dsimp only; omega), trivial⟩, ⟨hK, by dsimp only; omega, hu0, ?_⟩, by dsimp only; omega⟩
    dsimp only
    rw [he, show l.length - (n + 1) = f by omega]
    cases dep l f u with
    | none => rfl
    | some d => show d + 1 + n = d + (n + 1); omega
 ·refine KGO ?_
  refine ⟨zgG ?_, hK⟩
  rw [he, show l.length - n = 0 by omega, dep, if_neg hx]; rfl
end
end Go.Proofs.YtcplagfblmemhaaGreatDoor
