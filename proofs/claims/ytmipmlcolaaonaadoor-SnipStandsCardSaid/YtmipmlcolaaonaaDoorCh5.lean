/- Helper text of this claim: Ch5: lemmas and contracts that the proved statement rests on; no conditions of its own. -/
import Derived.Test.YtmipmlcolaaonaaDoorCh4
import Derived.Test.YtmipmlcolaaonaaDoorWcz
-- alias Tryd
namespace Go.Proofs.YtmipmlcolaaonaaDoor
open Go.RowKit Go.Pw Go.Vc Go.Cs Go.Lib
set_option linter.unusedVariables false
set_option maxRecDepth 100000
theorem str_lit (l m : List UInt8) (x : ByteArray) (hx : x = str m) : (str l = x) ↔ l = m := by subst hx; exact str_inj
section
variable {w : World}
set_option maxHeartbeats 1000000 in
theorem ref_kind (s : ByteArray) (hs : s.size ≤ 100000000) : Calls Tryd.prog 58 #[.string s] w fun e w' => e = .returned (.int .i64 (Cs.kind (L s) : Int)) ∧ Keeps w w' none_ := by
  refine calls_of_vc (args := [.string s]) Tryd.func58 rfl (Nat.le_of_ble_eq_true rfl) ?_; refine Sat.go hmix ?_; conv => whnf
  refine CallS.of (Tryd.call86 _ _) (ref_small s hs) ?_
  rintro e w1 ⟨rfl, k1⟩
  unfold Cs.kind
  generalize (L s).map lowerB = m at *
  refine ⟨_, rfl, ?_⟩; (first | refine Then.go hmix ?_ | refine Sat.go hmix ?_ | refine ResK.go ?_ | skip); conv => whnf
  unfold kindL
  by_cases h1 : m = nmUsAscii
  · repeat (refine Br.dec_yes ((str_lit m nmUsAscii _ rfl).2 h1) ?_; (first | refine Then.go hmix ?_ | refine Sat.go hmix ?_ | refine ResK.go ?_ | skip); conv => whnf)
    refine GO ?_
    rw [if_pos h1]
    exact ⟨rfl, k1⟩
  repeat (refine Br.dec_no (fun e => h1 ((str_lit m nmUsAscii _ rfl).1 e)) ?_; (first | refine Then.go hmix ?_ | refine Sat.go hmix ?_ | refine ResK.go ?_ | skip); conv => whnf)
  rw [if_neg h1]
  by_cases h2 : m = nmAscii
  · repeat (refine Br.dec_yes ((str_lit m nmAscii _ rfl).2 h2) ?_; (first | refine Then.go hmix ?_ | refine Sat.go hmix ?_ | refine ResK.go ?_ | skip); conv => whnf)
    refine GO ?_
    rw [if_pos h2]
    exact ⟨rfl, k1⟩
  repeat (refine Br.dec_no (fun e => h2 ((str_lit m nmAscii _ rfl).1 e)) ?_; (first | refine Then.go hmix ?_ | refine Sat.go hmix ?_ | refine ResK.go ?_ | skip); conv => whnf)
  rw [if_neg h2]
  by_cases h3 : m = nmUtf_8
  · repeat (refine Br.dec_yes ((str_lit m nmUtf_8 _ rfl).2 h3) ?_; (first | refine Then.go hmix ?_ | refine Sat.go hmix ?_ | refine ResK.go ?_ | skip); conv => whnf)
    refine GO ?_
    rw [if_pos h3]
    exact ⟨rfl, k1⟩
  repeat (refine Br.dec_no (fun e => h3 ((str_lit m nmUtf_8 _ rfl).1 e)) ?_; (first | refine Then.go hmix ?_ | refine Sat.go hmix ?_ | refine ResK.go ?_ | skip); conv => whnf)
  rw [if_neg h3]
  by_cases h4 : m = nmUtf8
  · repeat (refine Br.dec_yes ((str_lit m nmUtf8 _ rfl).2 h4) ?_; (first | refine Then.go hmix ?_ | refine Sat.go hmix ?_ | refine ResK.go ?_ | skip); conv => whnf)
    refine GO ?_
    rw [if_pos h4]
    exact ⟨rfl, k1⟩
  repeat (refine Br.dec_no (fun e => h4 ((str_lit m nmUtf8 _ rfl).1 e)) ?_; (first | refine Then.go hmix ?_ | refine Sat.go hmix ?_ | refine ResK.go ?_ | skip); conv => whnf)
  rw [if_neg h4]
  by_cases h5 : m = nmIso
  · repeat (refine Br.dec_yes ((str_lit m nmIso _ rfl).2 h5) ?_; (first | refine Then.go hmix ?_ | refine Sat.go hmix ?_ | refine ResK.go ?_ | skip); conv => whnf)
    refine GO ?_
    rw [if_pos h5]
    exact ⟨rfl, k1⟩
  repeat (refine Br.dec_no (fun e => h5 ((str_lit m nmIso _ rfl).1 e)) ?_; (first | refine Then.go hmix ?_ | refine Sat.go hmix ?_ | refine ResK.go ?_ | skip); conv => whnf)
  rw [if_neg h5]
  by_cases h6 : m = nmLatin1
  · repeat (refine Br.dec_yes ((str_lit m nmLatin1 _ rfl).2 h6) ?_; (first | refine Then.go hmix ?_ | refine Sat.go hmix ?_ | refine ResK.go ?_ | skip); conv => whnf)
    refine GO ?_
    rw [if_pos h6]
    exact ⟨rfl, k1⟩
  repeat (refine Br.dec_no (fun e => h6 ((str_lit m nmLatin1 _ rfl).1 e)) ?_; (first | refine Then.go hmix ?_ | refine Sat.go hmix ?_ | refine ResK.go ?_ | skip); conv => whnf)
  rw [if_neg h6]
  by_cases h7 : m = nmWin
  · repeat (refine Br.dec_yes ((str_lit m nmWin _ rfl).2 h7) ?_; (first | refine Then.go hmix ?_ | refine Sat.go hmix ?_ | refine ResK.go ?_ | skip); conv => whnf)
    refine GO ?_
    rw [if_pos h7]
    exact ⟨rfl, k1⟩
  repeat (refine Br.dec_no (fun e => h7 ((str_lit m nmWin _ rfl).1 e)) ?_; (first | refine Then.go hmix ?_ | refine Sat.go hmix ?_ | refine ResK.go ?_ | skip); conv => whnf)
  rw [if_neg h7]
  by_cases h8 : m = nmCp
  · repeat (refine Br.dec_yes ((str_lit m nmCp _ rfl).2 h8) ?_; (first | refine Then.go hmix ?_ | refine Sat.go hmix ?_ | refine ResK.go ?_ | skip); conv => whnf)
    refine GO ?_
    rw [if_pos h8]
    exact ⟨rfl, k1⟩
  repeat (refine Br.dec_no (fun e => h8 ((str_lit m nmCp _ rfl).1 e)) ?_; (first | refine Then.go hmix ?_ | refine Sat.go hmix ?_ | refine ResK.go ?_ | skip); conv => whnf)
  rw [if_neg h8]
  refine GO ?_
  exact ⟨rfl, k1⟩
theorem ref_Known (s : ByteArray) (hs : s.size ≤ 100000000) : Calls Tryd.prog 31 #[.string s] w fun e w' => e = .returned (.bool (decide (0 < Cs.kind (L s)))) ∧ Keeps w w' none_ := by
  refine calls_of_vc (args := [.string s]) Tryd.func31 rfl (Nat.le_of_ble_eq_true rfl) ?_; refine Sat.go hmix ?_; conv => whnf
  refine CallS.of (Tryd.call58 _ _) (ref_kind s hs) ?_
  rintro e w1 ⟨rfl, k1⟩
  refine ⟨_, rfl, ?_⟩; (first | refine Then.go hmix ?_ | refine Sat.go hmix ?_ | refine ResK.go ?_ | skip); conv => whnf
  exact ⟨ret_bool (by by_cases h : 0 < Cs.kind (L s) <;> simp [h]), k1⟩
theorem build_high (w : World) : (Instr.buildSlice 26 32 [(0, .int .i64 8364), (1, .int .i64 129), (2, .int .i64 8218), (3, .int .i64 402), (4, .int .i64 8222), (5, .int .i64 8230), (6, .int .i64 8224), (7, .int .i64 8225), (8, .int .i64 710), (9, .int .i64 8240), (10, .int .i64 352), (11, .int .i64 8249), (12, .int .i64 338), (13, .int .i64 141), (14, .int .i64 381), (15, .int .i64 143), (16, .int .i64 144), (17, .int .i64 8216), (18, .int .i64 8217), (19, .int .i64 8220), (20, .int .i64 8221), (21, .int .i64 8226), (22, .int .i64 8211), (23, .int .i64 8212), (24, .int .i64 732), (25, .int .i64 8482), (26, .int .i64 353), (27, .int .i64 8250), (28, .int .i64 339), (29, .int .i64 157), (30, .int .i64 382), (31, .int .i64 376)].toArray).run Tryd.prog w =
    .ok (.slice (some ⟨w.heap.size, 0, none⟩) 32 32) (w.alloc (.cells (highT.map fun (c : Nat) => Value.int .i64 (c : Int)).toArray 3)) := by
  simp [Instr.buildSlice, go_sem, Tryd.runUnderlying26, highT]
theorem high_cell (w : World) (T i : Nat) (hi : i < 32) : (w.alloc (.cells (highT.map fun (c : Nat) => Value.int .i64 (c : Int)).toArray T)).cell? ⟨w.heap.size, 0 + i, none⟩ = some (.int .i64 ((highT.getD i 0 : Nat) : Int)) := by
  rw [World.cell?_alloc_new]
  have hl : highT.length = 32 := rfl
  simp [List.getD, hl, hi]
theorem sgn_other (k : Nat) (b : UInt8) (h1 : k ≠ 1) (h : k = 3 ∨ b.toNat < 128 ∨ 160 ≤ b.toNat) : sgn k b = b.toNat := by
  unfold sgn
  rw [if_neg h1]
  repeat' split
  all_goals first | rfl | omega
theorem sgn_win (k : Nat) (b : UInt8) (h1 : k = 4 ∨ k = 0) (h : 128 ≤ b.toNat) (h' : b.toNat < 160) : sgn k b = highT.getD (b.toNat - 128) 0 := by
  unfold sgn
  rw [if_neg (by omega), if_neg (by omega), if_neg (by omega), if_pos h']
set_option maxHeartbeats 2000000 in
theorem ref_Decode (nm s : ByteArray) (hn : nm.size ≤ 100000000) (hs : s.size ≤ 100000000) : Calls Tryd.prog 21 #[.string nm, .string s] w fun e w' =>
    e = .returned (.tuple #[.string (str (decodeS (L nm) (L s))), .bool (decide (0 < Cs.kind (L nm)))]) ∧ Keeps w w' none_ := by
  have hl := L_len s
  have hk4 := kind_le (L nm)
  refine calls_of_vc (args := [.string nm, .string s]) Tryd.func21 rfl (Nat.le_of_ble_eq_true rfl) ?_; refine Sat.go hmix ?_; conv => whnf
  refine RunV.of (build_high _) ?_
  refine GO ?_
  have hcell := high_cell w 3
  have K1 : Keeps w (w.alloc (.cells (highT.map fun (c : Nat) => Value.int .i64 (c : Int)).toArray 3)) none_ := (Keeps.refl _ _).alloc _
  have hlt1 : w.heap.size < (w.alloc (.cells (highT.map fun (c : Nat) => Value.int .i64 (c : Int)).toArray 3)).heap.size := by simp
  generalize w.alloc (.cells (highT.map fun (c : Nat) => Value.int .i64 (c : Int)).toArray 3) = w1 at *
  refine CallS.of (Tryd.call58 _ _) (ref_kind nm hn) ?_
  rintro e w2 ⟨rfl, k2⟩
  refine ⟨_, rfl, ?_⟩; (first | refine Then.go hmix ?_ | refine Sat.go hmix ?_ | refine ResK.go ?_ | skip); conv => whnf
  unfold decodeS
  generalize Cs.kind (L nm) = k at *
  by_cases h2 : k = 2
  · refine GO ?_
    refine CallS.of (Tryd.call29 _ _) (ref_Repair s hs) ?_
    rintro e w3 ⟨rfl, k3⟩
    refine ⟨_, rfl, ?_⟩; (first | refine Then.go hmix ?_ | refine Sat.go hmix ?_ | refine ResK.go ?_ | skip); conv => whnf
    rw [if_pos h2]
    exact ⟨by simp [h2], (K1.trans0 k2).trans0 k3⟩
  rw [if_neg h2]
  refine GO ?_
  have K2 := k2
  refine Loop.intro (ι := Nat × Option Addr × Nat × List UInt8) (fun i => [(1, .string s), (6, .slice (some ⟨w.heap.size, 0, none⟩) 32 32), (7, .int .i64 (k : Int)), (8, .slice i.2.1 i.2.2.2.length i.2.2.1), (9, .int .i64 i.1)])
    (fun i wr => Keeps w1 wr none_ ∧ i.1 ≤ s.size ∧ Bytes wr w1.heap.size (.slice i.2.1 i.2.2.2.length i.2.2.1) i.2.2.2 ∧ i.2.2.2 = encs (((L s).take i.1).map (sgn k))) (fun i => s.size - i.1) (0, none, 0, []) ⟨rfl, rfl, rfl, rfl, rfl, trivial⟩
    ⟨k2, Nat.zero_le _, World.ownsRow_nil _ _ _ _, rfl⟩ ?_
  rintro ⟨n, b, bc, d⟩ g wr ⟨hK, hn, hv, he⟩
  dsimp only at hn hv he ⊢
  (first | refine Then.go hmix ?_ | refine Sat.go hmix ?_ | refine ResK.go ?_ | skip); conv => whnf
  by_cases hlt : n < s.size
  · refine GO ?_
    have hx : (L s).take (n + 1) = (L s).take n ++ [byteAt s n] := by
      rw [List.take_add_one, List.getElem?_eq_getElem (by omega : n < (L s).length)]
      have : byteAt s n = (L s)[n]'(by omega) := by show (L s).getD n 0 = _; rw [List.getD, List.getElem?_eq_getElem (by omega : n < (L s).length)]; rfl
      rw [this]; rfl
    generalize byteAt s n = x at *
    have hxl := UInt8.toNat_lt x
    have hdl := (encs_len (((L s).take n).map (sgn k))).2
    rw [← he, List.length_map, List.length_take] at hdl
    have hss := sgn_scal k x
    rw [wrap_byte]
    by_cases ck1 : k = 1 ∧ 128 ≤ x.toNat
    · have e : sgn k x = 65533 := by unfold sgn; rw [if_pos ck1.1, if_neg (by omega)]
      refine GO ?_
      refine CallS.of (Tryd.call59 _ _) (ref_laid 65533 (by decide)) ?_
      have he2 : encodeRune 65533 = enc (sgn k x) := by rw [e]; rfl
      rw [he2]
      rintro e w3 ⟨v, rfl, h2v, k3⟩
      obtain ⟨a2, c2, rfl⟩ := ref_str h2v
      refine ⟨_, rfl, ?_⟩; (first | refine Then.go hmix ?_ | refine Sat.go hmix ?_ | refine ResK.go ?_ | skip); conv => whnf
      have hel := enc_len (sgn k x)
      refine app_bytes (hv.keep k3) (Nat.le_trans hK.size k3.size) h2v hel.1 (by omega) fun v' w' h3 hg3 => ?_
      obtain ⟨a3, c3, rfl⟩ := h3.shape
      have K3 := (hK.trans0 k3).own (hv.keep k3) (Nat.le_refl _) hg3
      refine GO ?_
      exact ⟨(n + 1, a3, c3, d ++ enc (sgn k x)), ⟨rfl, rfl, rfl, rfl, v_int (by simp), trivial⟩, ⟨K3, by dsimp only; omega, h3, by dsimp only; rw [he, hx]; simp [encs_append, encs_cons, encs_nil]⟩, by dsimp only; omega⟩
    · by_cases ck2 : (k = 4 ∨ k = 0) ∧ 128 ≤ x.toNat ∧ x.toNat < 160
      · have e := sgn_win k x ck2.1 ck2.2.1 ck2.2.2
        have hc : wr.cell? ⟨w.heap.size, 0 + ((x.toNat : Int) - 128).toNat, none⟩ = some (.int .i64 ((sgn k x : Nat) : Int)) := by
          rw [show ((x.toNat : Int) - 128).toNat = x.toNat - 128 by omega, e, hK.cell (p := ⟨w.heap.size, 0 + (x.toNat - 128), none⟩) hlt1 id]
          exact hcell (x.toNat - 128) (by omega)
        by_cases c4 : k = 4
        · refine GO ?_
          refine CallS.of (Tryd.call59 _ _) (ref_laid ((sgn k x : Nat) : Int) (sign_of_scal _ hss)) ?_
          have he2 : encodeRune ((sgn k x : Nat) : Int) = enc (sgn k x) := by rfl
          rw [he2]
          rintro e w3 ⟨v, rfl, h2v, k3⟩
          obtain ⟨a2, c2, rfl⟩ := ref_str h2v
          refine ⟨_, rfl, ?_⟩; (first | refine Then.go hmix ?_ | refine Sat.go hmix ?_ | refine ResK.go ?_ | skip); conv => whnf
          have hel := enc_len (sgn k x)
          refine app_bytes (hv.keep k3) (Nat.le_trans hK.size k3.size) h2v hel.1 (by omega) fun v' w' h3 hg3 => ?_
          obtain ⟨a3, c3, rfl⟩ := h3.shape
          have K3 := (hK.trans0 k3).own (hv.keep k3) (Nat.le_refl _) hg3
          refine GO ?_
          exact ⟨(n + 1, a3, c3, d ++ enc (sgn k x)), ⟨rfl, rfl, rfl, rfl, v_int (by simp), trivial⟩, ⟨K3, by dsimp only; omega, h3, by dsimp only; rw [he, hx]; simp [encs_append, encs_cons, encs_nil]⟩, by dsimp only; omega⟩
        · refine GO ?_
          refine CallS.of (Tryd.call59 _ _) (ref_laid ((sgn k x : Nat) : Int) (sign_of_scal _ hss)) ?_
          have he2 : encodeRune ((sgn k x : Nat) : Int) = enc (sgn k x) := by rfl
          rw [he2]
          rintro e w3 ⟨v, rfl, h2v, k3⟩
          obtain ⟨a2, c2, rfl⟩ := ref_str h2v
          refine ⟨_, rfl, ?_⟩; (first | refine Then.go hmix ?_ | refine Sat.go hmix ?_ | refine ResK.go ?_ | skip); conv => whnf
          have hel := enc_len (sgn k x)
          refine app_bytes (hv.keep k3) (Nat.le_trans hK.size k3.size) h2v hel.1 (by omega) fun v' w' h3 hg3 => ?_
          obtain ⟨a3, c3, rfl⟩ := h3.shape
          have K3 := (hK.trans0 k3).own (hv.keep k3) (Nat.le_refl _) hg3
          refine GO ?_
          exact ⟨(n + 1, a3, c3, d ++ enc (sgn k x)), ⟨rfl, rfl, rfl, rfl, v_int (by simp), trivial⟩, ⟨K3, by dsimp only; omega, h3, by dsimp only; rw [he, hx]; simp [encs_append, encs_cons, encs_nil]⟩, by dsimp only; omega⟩
      · have e : sgn k x = x.toNat := by
          by_cases h1 : k = 1
          · unfold sgn; rw [if_pos h1, if_pos (by omega)]
          · exact sgn_other k x h1 (by omega)
        have hsx : isSign ((x.toNat : Nat) : Int) = true := by rw [← e]; exact sign_of_scal _ hss
        by_cases c1 : k = 1
        · by_cases c128 : 128 ≤ x.toNat
          · exact (ck1 ⟨c1, c128⟩).elim
          · refine GO ?_
            refine CallS.of (Tryd.call59 _ _) (ref_laid ((x.toNat : Nat) : Int) hsx) ?_
            have he2 : encodeRune ((x.toNat : Nat) : Int) = enc (sgn k x) := by rw [e]; rfl
            rw [he2]
            rintro e w3 ⟨v, rfl, h2v, k3⟩
            obtain ⟨a2, c2, rfl⟩ := ref_str h2v
            refine ⟨_, rfl, ?_⟩; (first | refine Then.go hmix ?_ | refine Sat.go hmix ?_ | refine ResK.go ?_ | skip); conv => whnf
            have hel := enc_len (sgn k x)
            refine app_bytes (hv.keep k3) (Nat.le_trans hK.size k3.size) h2v hel.1 (by omega) fun v' w' h3 hg3 => ?_
            obtain ⟨a3, c3, rfl⟩ := h3.shape
            have K3 := (hK.trans0 k3).own (hv.keep k3) (Nat.le_refl _) hg3
            refine GO ?_
            exact ⟨(n + 1, a3, c3, d ++ enc (sgn k x)), ⟨rfl, rfl, rfl, rfl, v_int (by simp), trivial⟩, ⟨K3, by dsimp only; omega, h3, by dsimp only; rw [he, hx]; simp [encs_append, encs_cons, encs_nil]⟩, by dsimp only; omega⟩
        · by_cases c4 : k = 4
          · by_cases c128 : 128 ≤ x.toNat
            · refine GO ?_
              refine CallS.of (Tryd.call59 _ _) (ref_laid ((x.toNat : Nat) : Int) hsx) ?_
              have he2 : encodeRune ((x.toNat : Nat) : Int) = enc (sgn k x) := by rw [e]; rfl
              rw [he2]
              rintro e w3 ⟨v, rfl, h2v, k3⟩
              obtain ⟨a2, c2, rfl⟩ := ref_str h2v
              refine ⟨_, rfl, ?_⟩; (first | refine Then.go hmix ?_ | refine Sat.go hmix ?_ | refine ResK.go ?_ | skip); conv => whnf
              have hel := enc_len (sgn k x)
              refine app_bytes (hv.keep k3) (Nat.le_trans hK.size k3.size) h2v hel.1 (by omega) fun v' w' h3 hg3 => ?_
              obtain ⟨a3, c3, rfl⟩ := h3.shape
              have K3 := (hK.trans0 k3).own (hv.keep k3) (Nat.le_refl _) hg3
              refine GO ?_
              exact ⟨(n + 1, a3, c3, d ++ enc (sgn k x)), ⟨rfl, rfl, rfl, rfl, v_int (by simp), trivial⟩, ⟨K3, by dsimp only; omega, h3, by dsimp only; rw [he, hx]; simp [encs_append, encs_cons, encs_nil]⟩, by dsimp only; omega⟩
            · refine GO ?_
              refine CallS.of (Tryd.call59 _ _) (ref_laid ((x.toNat : Nat) : Int) hsx) ?_
              have he2 : encodeRune ((x.toNat : Nat) : Int) = enc (sgn k x) := by rw [e]; rfl
              rw [he2]
              rintro e w3 ⟨v, rfl, h2v, k3⟩
              obtain ⟨a2, c2, rfl⟩ := ref_str h2v
              refine ⟨_, rfl, ?_⟩; (first | refine Then.go hmix ?_ | refine Sat.go hmix ?_ | refine ResK.go ?_ | skip); conv => whnf
              have hel := enc_len (sgn k x)
              refine app_bytes (hv.keep k3) (Nat.le_trans hK.size k3.size) h2v hel.1 (by omega) fun v' w' h3 hg3 => ?_
              obtain ⟨a3, c3, rfl⟩ := h3.shape
              have K3 := (hK.trans0 k3).own (hv.keep k3) (Nat.le_refl _) hg3
              refine GO ?_
              exact ⟨(n + 1, a3, c3, d ++ enc (sgn k x)), ⟨rfl, rfl, rfl, rfl, v_int (by simp), trivial⟩, ⟨K3, by dsimp only; omega, h3, by dsimp only; rw [he, hx]; simp [encs_append, encs_cons, encs_nil]⟩, by dsimp only; omega⟩
          · by_cases c0 : k = 0
            · by_cases c128 : 128 ≤ x.toNat
              · refine GO ?_
                refine CallS.of (Tryd.call59 _ _) (ref_laid ((x.toNat : Nat) : Int) hsx) ?_
                have he2 : encodeRune ((x.toNat : Nat) : Int) = enc (sgn k x) := by rw [e]; rfl
                rw [he2]
                rintro e w3 ⟨v, rfl, h2v, k3⟩
                obtain ⟨a2, c2, rfl⟩ := ref_str h2v
                refine ⟨_, rfl, ?_⟩; (first | refine Then.go hmix ?_ | refine Sat.go hmix ?_ | refine ResK.go ?_ | skip); conv => whnf
                have hel := enc_len (sgn k x)
                refine app_bytes (hv.keep k3) (Nat.le_trans hK.size k3.size) h2v hel.1 (by omega) fun v' w' h3 hg3 => ?_
                obtain ⟨a3, c3, rfl⟩ := h3.shape
                have K3 := (hK.trans0 k3).own (hv.keep k3) (Nat.le_refl _) hg3
                refine GO ?_
                exact ⟨(n + 1, a3, c3, d ++ enc (sgn k x)), ⟨rfl, rfl, rfl, rfl, v_int (by simp), trivial⟩, ⟨K3, by dsimp only; omega, h3, by dsimp only; rw [he, hx]; simp [encs_append, encs_cons, encs_nil]⟩, by dsimp only; omega⟩
              · refine GO ?_
                refine CallS.of (Tryd.call59 _ _) (ref_laid ((x.toNat : Nat) : Int) hsx) ?_
                have he2 : encodeRune ((x.toNat : Nat) : Int) = enc (sgn k x) := by rw [e]; rfl
                rw [he2]
                rintro e w3 ⟨v, rfl, h2v, k3⟩
                obtain ⟨a2, c2, rfl⟩ := ref_str h2v
                refine ⟨_, rfl, ?_⟩; (first | refine Then.go hmix ?_ | refine Sat.go hmix ?_ | refine ResK.go ?_ | skip); conv => whnf
                have hel := enc_len (sgn k x)
                refine app_bytes (hv.keep k3) (Nat.le_trans hK.size k3.size) h2v hel.1 (by omega) fun v' w' h3 hg3 => ?_
                obtain ⟨a3, c3, rfl⟩ := h3.shape
                have K3 := (hK.trans0 k3).own (hv.keep k3) (Nat.le_refl _) hg3
                refine GO ?_
                exact ⟨(n + 1, a3, c3, d ++ enc (sgn k x)), ⟨rfl, rfl, rfl, rfl, v_int (by simp), trivial⟩, ⟨K3, by dsimp only; omega, h3, by dsimp only; rw [he, hx]; simp [encs_append, encs_cons, encs_nil]⟩, by dsimp only; omega⟩
            · refine GO ?_
              refine CallS.of (Tryd.call59 _ _) (ref_laid ((x.toNat : Nat) : Int) hsx) ?_
              have he2 : encodeRune ((x.toNat : Nat) : Int) = enc (sgn k x) := by rw [e]; rfl
              rw [he2]
              rintro e w3 ⟨v, rfl, h2v, k3⟩
              obtain ⟨a2, c2, rfl⟩ := ref_str h2v
              refine ⟨_, rfl, ?_⟩; (first | refine Then.go hmix ?_ | refine Sat.go hmix ?_ | refine ResK.go ?_ | skip); conv => whnf
              have hel := enc_len (sgn k x)
              refine app_bytes (hv.keep k3) (Nat.le_trans hK.size k3.size) h2v hel.1 (by omega) fun v' w' h3 hg3 => ?_
              obtain ⟨a3, c3, rfl⟩ := h3.shape
              have K3 := (hK.trans0 k3).own (hv.keep k3) (Nat.le_refl _) hg3
              refine GO ?_
              exact ⟨(n + 1, a3, c3, d ++ enc (sgn k x)), ⟨rfl, rfl, rfl, rfl, v_int (by simp), trivial⟩, ⟨K3, by dsimp only; omega, h3, by dsimp only; rw [he, hx]; simp [encs_append, encs_cons, encs_nil]⟩, by dsimp only; omega⟩
  · refine GO ?_
    have hnn : n = s.size := by omega
    rw [hnn, ← hl, List.take_length] at he
    refine RunV.str (l := d) Tryd.underlying43 Tryd.underlying5 Tryd.underlying9 hv ?_
    refine GO ?_
    refine ⟨?_, K1.trans0 hK⟩
    rw [he]
    by_cases h0 : 0 < k <;> simp [h0, str]
end
end Go.Proofs.YtmipmlcolaaonaaDoor
