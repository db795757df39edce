/- Helper text of this claim: lemmas and contracts that the proved statement rests on; no conditions of its own. -/
import Derived.Test.YtcplagfblmemhaaGreatDoorRows
import Derived.PinnedBridge
import Derived.Lib.LaidU8T
import Derived.Test.YtcplagfblmemhaaGreatDoorGAdA
namespace Go.Proofs.YtcplagfblmemhaaGreatDoor
set_option linter.unusedVariables false
open Go.Shelf Go.RowKit Go.Pw Go.Vc Go.Cs Go.Lib
set_option linter.unusedVariables false
set_option maxRecDepth 100000
abbrev cI : Int → List Value := fun z => [Value.int .i64 z]
abbrev pI : Int → Prop := fun z => -9223372036854775808 ≤ z ∧ z ≤ 9223372036854775807
abbrev cS : ByteArray → List Value := fun z => [Value.string z]
abbrev pS : ByteArray → Prop := fun z => z.size ≤ 140737488355328
abbrev cB : List Int → List Value := fun l => l.map (Value.int .u8)
abbrev pB : List Int → Prop := fun l => l.length = 32
abbrev cV : Value × List Int → List Value := fun y => [y.1]
abbrev cW : Value × List (List UInt8) → List Value := fun y => [y.1]
abbrev pV (W : World) : Value × List Int → Prop := fun y => RowI W y.1 y.2 ∧ y.2.length * 8 ≤ 140737488351232 ∧ ∀ z ∈ y.2, pI z
abbrev pW (W : World) : Value × List (List UInt8) → Prop := fun y => RowT W y.1 y.2 ∧ y.2.length * 16 ≤ 140737488351232 ∧ ∀ z ∈ y.2, z.length ≤ 140737488355328
theorem zky {W : World} : Opens Tryz.prog W 37 cV (pV W) := @zdr _ W _ _ Int _ inC pI 1 8 Tryz.underlying37 (@zbB _ _ _ Tryz.underlying3) (fun _ => rfl) (by decide) (by kernel_rfl) (by kernel_rfl) (by decide)
theorem zna {W : World} : Opens Tryz.prog W 9 txC (fun z => z.length ≤ 140737488355328) := @Opens.imp _ _ _ _ _ _ _ _ _ (@zcf _ W _ Tryz.underlying9) L (fun s => by show [Value.string s] = [Value.string (str (L s))]; rw [str_L]) (fun s h => by rw [show (L s).length = s.size from by rw [← zbd, str_L]]; exact h)
theorem zgf {W : World} : Opens Tryz.prog W 58 cW (pW W) := @zdr _ W _ _ (List UInt8) _ txC (fun z => z.length ≤ 140737488355328) 1 16 Tryz.underlying58 (@zna W) (fun _ => rfl) (by decide) (by kernel_rfl) (by kernel_rfl) (by decide)
abbrev Ty14 := Unit
abbrev Cc14 : Ty14 → List Value := fun _ => []
abbrev Pp14 (W : World) : Ty14 → Prop := fun _ => True
abbrev Ty13 := (Int) × Ty14
abbrev Cc13 : Ty13 → List Value := fun y => cI y.1 ++ Cc14 y.2
abbrev Pp13 (W : World) : Ty13 → Prop := fun y => pI y.1 ∧ Pp14 W y.2
abbrev Ty12 := (Int) × Ty13
abbrev Cc12 : Ty12 → List Value := fun y => cI y.1 ++ Cc13 y.2
abbrev Pp12 (W : World) : Ty12 → Prop := fun y => pI y.1 ∧ Pp13 W y.2
abbrev Ty11 := (Int) × Ty12
abbrev Cc11 : Ty11 → List Value := fun y => cI y.1 ++ Cc12 y.2
abbrev Pp11 (W : World) : Ty11 → Prop := fun y => pI y.1 ∧ Pp12 W y.2
abbrev Ty10 := (Value × List (List UInt8)) × Ty11
abbrev Cc10 : Ty10 → List Value := fun y => cW y.1 ++ Cc11 y.2
abbrev Pp10 (W : World) : Ty10 → Prop := fun y => (pW W) y.1 ∧ Pp11 W y.2
abbrev Ty9 := (Value × List (List UInt8)) × Ty10
abbrev Cc9 : Ty9 → List Value := fun y => cW y.1 ++ Cc10 y.2
abbrev Pp9 (W : World) : Ty9 → Prop := fun y => (pW W) y.1 ∧ Pp10 W y.2
abbrev Ty8 := (Value × List Int) × Ty9
abbrev Cc8 : Ty8 → List Value := fun y => cV y.1 ++ Cc9 y.2
abbrev Pp8 (W : World) : Ty8 → Prop := fun y => (pV W) y.1 ∧ Pp9 W y.2
abbrev Ty7 := (List Int) × Ty8
abbrev Cc7 : Ty7 → List Value := fun y => cB y.1 ++ Cc8 y.2
abbrev Pp7 (W : World) : Ty7 → Prop := fun y => pB y.1 ∧ Pp8 W y.2
abbrev Ty6 := (ByteArray) × Ty7
abbrev Cc6 : Ty6 → List Value := fun y => cS y.1 ++ Cc7 y.2
abbrev Pp6 (W : World) : Ty6 → Prop := fun y => pS y.1 ∧ Pp7 W y.2
abbrev Ty5 := (ByteArray) × Ty6
abbrev Cc5 : Ty5 → List Value := fun y => cS y.1 ++ Cc6 y.2
abbrev Pp5 (W : World) : Ty5 → Prop := fun y => pS y.1 ∧ Pp6 W y.2
abbrev Ty4 := (ByteArray) × Ty5
abbrev Cc4 : Ty4 → List Value := fun y => cS y.1 ++ Cc5 y.2
abbrev Pp4 (W : World) : Ty4 → Prop := fun y => pS y.1 ∧ Pp5 W y.2
abbrev Ty3 := (Int) × Ty4
abbrev Cc3 : Ty3 → List Value := fun y => cI y.1 ++ Cc4 y.2
abbrev Pp3 (W : World) : Ty3 → Prop := fun y => pI y.1 ∧ Pp4 W y.2
abbrev Ty2 := (Int) × Ty3
abbrev Cc2 : Ty2 → List Value := fun y => cI y.1 ++ Cc3 y.2
abbrev Pp2 (W : World) : Ty2 → Prop := fun y => pI y.1 ∧ Pp3 W y.2
abbrev Ty1 := (Int) × Ty2
abbrev Cc1 : Ty1 → List Value := fun y => cI y.1 ++ Cc2 y.2
abbrev Pp1 (W : World) : Ty1 → Prop := fun y => pI y.1 ∧ Pp2 W y.2
abbrev Ty0 := (Int) × Ty1
abbrev Cc0 : Ty0 → List Value := fun y => cI y.1 ++ Cc1 y.2
abbrev Pp0 (W : World) : Ty0 → Prop := fun y => pI y.1 ∧ Pp1 W y.2
def slOf : Value → Sl
 | .slice a n c => ⟨a, n, c⟩
 | _ => ⟨none, 0, 0⟩
def dgOf (l : List Int) : Dg := ⟨l[0]!, l[1]!, l[2]!, l[3]!, l[4]!, l[5]!, l[6]!, l[7]!, l[8]!, l[9]!, l[10]!, l[11]!, l[12]!, l[13]!, l[14]!, l[15]!, l[16]!, l[17]!, l[18]!, l[19]!, l[20]!, l[21]!, l[22]!, l[23]!, l[24]!, l[25]!, l[26]!, l[27]!, l[28]!, l[29]!, l[30]!, l[31]!⟩
theorem dg_of {l : List Int} (h : l.length = 32) : l.map (Value.int .u8) = dgC (dgOf l) := by
 have e : dgC (dgOf l) = (List.range 32).map (fun i => Value.int .u8 l[i]!) := rfl
 rw [e]
 refine List.ext_getElem? fun i => ?_
 by_cases hi : i < 32
 ·have hl : i < l.length := by omega
  simp [hi, hl]
 ·rw [List.getElem?_eq_none (by simp; omega), List.getElem?_eq_none (by simp; omega)]
theorem sl_of {α : Type} {W : World} {v : Value} {c : α → List Value} {l : List α} (h : RowO W v c l) : v = (slOf v).v := by
 obtain ⟨a, cap, rfl, _⟩ := h
 rfl
def opOf (y : Ty0) : Ov × Opr := (⟨slOf y.2.2.2.2.2.2.2.2.1.1, slOf y.2.2.2.2.2.2.2.2.2.1.1, slOf y.2.2.2.2.2.2.2.2.2.2.1.1⟩, ⟨y.1, y.2.1, y.2.2.1, y.2.2.2.1, L y.2.2.2.2.1, L y.2.2.2.2.2.1, L y.2.2.2.2.2.2.1, dgOf y.2.2.2.2.2.2.2.1, y.2.2.2.2.2.2.2.2.1.2, y.2.2.2.2.2.2.2.2.2.1.2, y.2.2.2.2.2.2.2.2.2.2.1.2, y.2.2.2.2.2.2.2.2.2.2.2.1, y.2.2.2.2.2.2.2.2.2.2.2.2.1, y.2.2.2.2.2.2.2.2.2.2.2.2.2.1⟩)
theorem zok {W : World} (y : Ty0) (h : Pp0 W y) : Cc0 y = opC' (opOf y) := by
 obtain ⟨y0, y1, y2, y3, y4, y5, y6, y7, ⟨y8, z8⟩, ⟨y9, z9⟩, ⟨y10, z10⟩, y11, y12, y13, y14⟩ := y
 obtain ⟨_, _, _, _, _, _, _, h7, ⟨h8, _⟩, ⟨h9, _⟩, ⟨h10, _⟩, _⟩ := h
 dsimp only at h7 h8 h9 h10
 have e8 := sl_of h8
 have e9 := sl_of h9
 have e10 := sl_of h10
 have e7 := dg_of h7
 show [Value.int .i64 y0] ++ ([Value.int .i64 y1] ++ ([Value.int .i64 y2] ++ ([Value.int .i64 y3] ++ ([Value.string y4] ++ ([Value.string y5] ++ ([Value.string y6] ++ (y7.map (Value.int .u8) ++ ([y8] ++ ([y9] ++ ([y10] ++ ([Value.int .i64 y11] ++ ([Value.int .i64 y12] ++ ([Value.int .i64 y13] ++ []))))))))))))) = opC (opOf _).1 (opOf _).2
 rw [e7]
 unfold opOf opC
 dsimp only
 rw [str_L, str_L, str_L]
 show _ = [Value.int .i64 y0, .int .i64 y1, .int .i64 y2, .int .i64 y3, .string y4, .string y5, .string y6] ++ (dgC (dgOf y7) ++ [(slOf y8).v, (slOf y9).v, (slOf y10).v, .int .i64 y11, .int .i64 y12, .int .i64 y13])
 rw [← e8, ← e9, ← e10]
 simp only [List.nil_append, List.cons_append, List.append_nil]
theorem zqq {W : World} (y : Ty0) (h : Pp0 W y) : OpR W (opOf y).1 (opOf y).2 ∧ FitO (opOf y).2 := by
 obtain ⟨y0, y1, y2, y3, y4, y5, y6, y7, ⟨y8, z8⟩, ⟨y9, z9⟩, ⟨y10, z10⟩, y11, y12, y13, y14⟩ := y
 obtain ⟨_, _, _, _, h4, h5, h6, h7, ⟨h8, b8, _⟩, ⟨h9, b9, c9⟩, ⟨h10, b10, c10⟩, _⟩ := h
 dsimp only at h4 h5 h6 h7 h8 b8 h9 b9 c9 h10 b10 c10
 have hL : ∀ s : ByteArray, (L s).length = s.size := fun s => by rw [← zbd, str_L]
 refine ⟨⟨?_, ?_, ?_⟩, ⟨by show z8.length ≤ _; omega, by show z9.length ≤ _; omega, by show z10.length ≤ _; omega, c9, c10, by show (L y4).length ≤ _; rw [hL]; exact h4, by show (L y5).length ≤ _; rw [hL]; exact h5, by show (L y6).length ≤ _; rw [hL]; exact h6⟩⟩
 ·show RowI W (slOf y8).v z8
  rw [← sl_of h8]; exact h8
 ·show RowT W (slOf y9).v z9
  rw [← sl_of h9]; exact h9
 ·show RowT W (slOf y10).v z10
  rw [← sl_of h10]; exact h10
theorem znr {W : World} : Opens Tryz.prog W 72 opC' (fun p => OpR W p.1 p.2 ∧ FitO p.2) := by
 refine @Opens.impP _ _ _ _ _ Cc0 (Pp0 W) _ _ (@zhN _ _ _ _ 45 Ty0 Cc0 (Pp0 W) Tryz.underlying72 (by kernel_rfl) ?h) opOf zok zqq
 refine @zaF _ _ _ _ _ _ 1 _ _ cI pI Cc1 (Pp1 W) rfl ?_ ?_ ?_
 ·kernel_rfl
 ·exact @zbB _ _ _ Tryz.underlying3
 refine @zaF _ _ _ _ _ _ 1 _ _ cI pI Cc2 (Pp2 W) rfl ?_ ?_ ?_
 ·kernel_rfl
 ·exact @zbB _ _ _ Tryz.underlying3
 refine @zaF _ _ _ _ _ _ 1 _ _ cI pI Cc3 (Pp3 W) rfl ?_ ?_ ?_
 ·kernel_rfl
 ·exact @zbB _ _ _ Tryz.underlying3
 refine @zaF _ _ _ _ _ _ 1 _ _ cI pI Cc4 (Pp4 W) rfl ?_ ?_ ?_
 ·kernel_rfl
 ·exact @zbB _ _ _ Tryz.underlying3
 refine @zaF _ _ _ _ _ _ 1 _ _ cS pS Cc5 (Pp5 W) rfl ?_ ?_ ?_
 ·kernel_rfl
 ·exact @zcf _ _ _ Tryz.underlying9
 refine @zaF _ _ _ _ _ _ 1 _ _ cS pS Cc6 (Pp6 W) rfl ?_ ?_ ?_
 ·kernel_rfl
 ·exact @zcf _ _ _ Tryz.underlying9
 refine @zaF _ _ _ _ _ _ 1 _ _ cS pS Cc7 (Pp7 W) rfl ?_ ?_ ?_
 ·kernel_rfl
 ·exact @zcf _ _ _ Tryz.underlying9
 refine @zaF _ _ _ _ _ _ 32 _ _ cB pB Cc8 (Pp8 W) rfl ?_ ?_ ?_
 ·kernel_rfl
 ·exact @zit _ _ _ 32 _ .u8 Tryz.underlying57 Tryz.underlying5 (by kernel_rfl) (by kernel_rfl)
 refine @zaF _ _ _ _ _ _ 1 _ _ cV (pV W) Cc9 (Pp9 W) rfl ?_ ?_ ?_
 ·kernel_rfl
 ·exact @zky W
 refine @zaF _ _ _ _ _ _ 1 _ _ cW (pW W) Cc10 (Pp10 W) rfl ?_ ?_ ?_
 ·kernel_rfl
 ·exact @zgf W
 refine @zaF _ _ _ _ _ _ 1 _ _ cW (pW W) Cc11 (Pp11 W) rfl ?_ ?_ ?_
 ·kernel_rfl
 ·exact @zgf W
 refine @zaF _ _ _ _ _ _ 1 _ _ cI pI Cc12 (Pp12 W) rfl ?_ ?_ ?_
 ·kernel_rfl
 ·exact @zbB _ _ _ Tryz.underlying3
 refine @zaF _ _ _ _ _ _ 1 _ _ cI pI Cc13 (Pp13 W) rfl ?_ ?_ ?_
 ·kernel_rfl
 ·exact @zbB _ _ _ Tryz.underlying3
 refine @zaF _ _ _ _ _ _ 1 _ _ cI pI Cc14 (Pp14 W) rfl ?_ ?_ ?_
 ·kernel_rfl
 ·exact @zbB _ _ _ Tryz.underlying3
 exact @zlu _ _ _
instance : Inhabited (Ov × Opr) := ⟨(⟨⟨none, 0, 0⟩, ⟨none, 0, 0⟩, ⟨none, 0, 0⟩⟩, ⟨0, 0, 0, 0, [], [], [], dgOf [], [], [], [], 0, 0, 0⟩)⟩
theorem zqF {W : World} {H : Type} {enc : TypeId × Value → H} {v : Value} {d : DataW H} {ps : List MemPlace} (hs : v.cells.toList = [v]) (ht : DataW.Trod enc Tryz.prog W 0 (fun _ => true) true 22 v d ps) (hsz : ∀ n ∈ d.weights Tryz.prog 22, n ≤ reachBytes) :
  ∃ l : List Opr, RowOp W v l ∧ l.length ≤ 1000000000000 ∧ ∀ o ∈ l, FitO o := by
 have op := @zdr Tryz.prog W 22 _ (Ov × Opr) _ _ _ 45 208 Tryz.underlying22 (@znr W) (fun _ => rfl) (by decide) (by kernel_rfl) (by kernel_rfl) (by decide)
 obtain ⟨⟨v1, l⟩, e, h1, h2, h3⟩ := zij (@op) ht hsz
 rw [hs] at e
 obtain rfl : v = v1 := by simpa using e
 dsimp only at h1 h2 h3
 refine ⟨l.map (·.2), ⟨l, rfl, h1, fun p hp => (h3 p hp).1⟩, by rw [List.length_map]; omega, fun o ho => ?_⟩
 obtain ⟨p, hp, rfl⟩ := List.mem_map.1 ho
 exact (h3 p hp).2
theorem u8x3 : U8Extra Tryz.prog ren196 := ⟨by kernel_rfl, by kernel_rfl, by kernel_rfl, by kernel_rfl, by kernel_rfl, by kernel_rfl, by kernel_rfl⟩
theorem zqg : (Rows.laid_unicode_utf8_acceptRanges : DataW Unit) = acceptData := by kernel_rfl
theorem zpP : Rows.laid_unicode_utf8_first = firstData := Pinned.utf8First_eq
theorem zox {W : World} (h3 : VarReads Tryz.prog W "unicode/utf8.first" Rows.laid_unicode_utf8_first) (h4 : VarReads Tryz.prog W "unicode/utf8.acceptRanges" Rows.laid_unicode_utf8_acceptRanges) : Tabs W := by
 rw [zqg] at h4
 rw [zpP] at h3
 exact utf8Tabs_of_readsT (U8Types.of196 lays196) u8x3 h3 h4
end Go.Proofs.YtcplagfblmemhaaGreatDoor
