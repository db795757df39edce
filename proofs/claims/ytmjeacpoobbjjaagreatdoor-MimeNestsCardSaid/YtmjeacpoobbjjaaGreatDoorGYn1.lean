/- Helper lemmas that the proved statement rests on; no conditions of their own. -/
import Derived.Shelf.Strconv.AtoiAll
import Derived.Test.YtmjeacpoobbjjaaGreatDoorGCh9
set_option linter.unusedVariables false
set_option maxHeartbeats 4000000
set_option maxRecDepth 100000
namespace Go.Proofs.YtmjeacpoobbjjaaGreatDoor
open Go.Shelf Go.RowKit Go.Pw Go.Vc Go.Cs Go.Lib Go.Tk Go.Hd Go.Ty
def renC_172 : Go.Shelf.Ren := ⟨fun | 129 => 224 | 171 => 213 | 172 => 170 | 205 => 212 | 243 => 217 | 244 => 183 | 245 => 184 | 246 => 218 | 247 => 198 | 279 => 199 | 280 => 200 | 281 => 201 | 282 => 202 | 283 => 219 | 284 => 220 | 285 => 221 | 286 => 222 | 287 => 210 | 316 => 211 | 317 => 223 | 318 => 225 | 319 => 226 | 320 => 227 | 321 => 215 | 322 => 216 | 337 => 228 | 338 => 229 | n => n, fun | 0 => 0 | 2 => 2 | 3 => 3 | 4 => 4 | 5 => 5 | 9 => 9 | 20 => 20 | 21 => 21 | 37 => 107 | 46 => 154 | 51 => 165 | 53 => 197 | 75 => 124 | 76 => 125 | 80 => 127 | 85 => 187 | 127 => 155 | 143 => 205 | 145 => 207 | 167 => 186 | 168 => 189 | 171 => 209 | 173 => 212 | 175 => 198 | 210 => 201 | 212 => 215 | 213 => 216 | 232 => 219 | 233 => 220 | n => n, fun | 15 => 3 | 16 => 4 | 17 => 5 | 18 => 6 | 19 => 7 | n => n⟩
theorem zfR : Go.Proofs.LaysC.n172 Tryz.prog renC_172 := {
 mixed := by kernel_rfl
 f129 := Tryz.func224.trans (congrArg some (by kernel_rfl))
 f171 := Tryz.func213.trans (congrArg some (by kernel_rfl))
 f172 := Tryz.func170.trans (congrArg some (by kernel_rfl))
 f205 := Tryz.func212.trans (congrArg some (by kernel_rfl))
 f243 := Tryz.func217.trans (congrArg some (by kernel_rfl))
 f244 := Tryz.func183.trans (congrArg some (by kernel_rfl))
 f245 := Tryz.func184.trans (congrArg some (by kernel_rfl))
 f246 := Tryz.func218.trans (congrArg some (by kernel_rfl))
 f247 := Tryz.func198.trans (congrArg some (by kernel_rfl))
 f279 := Tryz.func199.trans (congrArg some (by kernel_rfl))
 f280 := Tryz.func200.trans (congrArg some (by kernel_rfl))
 f281 := Tryz.func201.trans (congrArg some (by kernel_rfl))
 f282 := Tryz.func202.trans (congrArg some (by kernel_rfl))
 f283 := Tryz.func219.trans (congrArg some (by kernel_rfl))
 f284 := Tryz.func220.trans (congrArg some (by kernel_rfl))
 f285 := Tryz.func221.trans (congrArg some (by kernel_rfl))
 f286 := Tryz.func222.trans (congrArg some (by kernel_rfl))
 f287 := Tryz.func210.trans (congrArg some (by kernel_rfl))
 f316 := Tryz.func211.trans (congrArg some (by kernel_rfl))
 f317 := Tryz.func223.trans (congrArg some (by kernel_rfl))
 f318 := Tryz.func225.trans (congrArg some (by kernel_rfl))
 f319 := Tryz.func226.trans (congrArg some (by kernel_rfl))
 f320 := Tryz.func227.trans (congrArg some (by kernel_rfl))
 f321 := Tryz.func215.trans (congrArg some (by kernel_rfl))
 f322 := Tryz.func216.trans (congrArg some (by kernel_rfl))
 f337 := Tryz.func228.trans (congrArg some (by kernel_rfl))
 f338 := Tryz.func229.trans (congrArg some (by kernel_rfl))
 t0 := Tryz.underlying0
 a0 := Tryz.isAgg0
 z0 := Tryz.sizeOf0
 v0 := Tryz.zeroValue0
 t2 := Tryz.underlying2
 a2 := Tryz.isAgg2
 z2 := Tryz.sizeOf2
 v2 := Tryz.zeroValue2
 t3 := Tryz.underlying3
 a3 := Tryz.isAgg3
 z3 := Tryz.sizeOf3
 v3 := Tryz.zeroValue3
 t4 := Tryz.underlying4
 a4 := Tryz.isAgg4
 z4 := Tryz.sizeOf4
 v4 := Tryz.zeroValue4
 t5 := Tryz.underlying5
 a5 := Tryz.isAgg5
 z5 := Tryz.sizeOf5
 v5 := Tryz.zeroValue5
 t9 := Tryz.underlying9
 a9 := Tryz.isAgg9
 z9 := Tryz.sizeOf9
 v9 := Tryz.zeroValue9
 t20 := Tryz.underlying20
 a20 := Tryz.isAgg20
 z20 := Tryz.sizeOf20
 v20 := Tryz.zeroValue20
 t21 := Tryz.underlying21
 a21 := Tryz.isAgg21
 z21 := Tryz.sizeOf21
 v21 := Tryz.zeroValue21
 t37 := Tryz.underlying107
 a37 := Tryz.isAgg107
 z37 := Tryz.sizeOf107
 v37 := Tryz.zeroValue107
 t46 := Tryz.underlying154
 a46 := Tryz.isAgg154
 z46 := Tryz.sizeOf154
 v46 := Tryz.zeroValue154
 t51 := Tryz.underlying165
 a51 := Tryz.isAgg165
 z51 := Tryz.sizeOf165
 v51 := Tryz.zeroValue165
 t53 := Tryz.underlying197
 a53 := Tryz.isAgg197
 z53 := Tryz.sizeOf197
 v53 := Tryz.zeroValue197
 t75 := Tryz.underlying124
 a75 := Tryz.isAgg124
 z75 := Tryz.sizeOf124
 v75 := Tryz.zeroValue124
 t76 := Tryz.underlying125
 a76 := Tryz.isAgg125
 z76 := Tryz.sizeOf125
 v76 := Tryz.zeroValue125
 t85 := Tryz.underlying187
 a85 := Tryz.isAgg187
 z85 := Tryz.sizeOf187
 v85 := Tryz.zeroValue187
 t127 := Tryz.underlying155
 a127 := Tryz.isAgg155
 z127 := Tryz.sizeOf155
 v127 := Tryz.zeroValue155
 t143 := Tryz.underlying205
 a143 := Tryz.isAgg205
 z143 := Tryz.sizeOf205
 v143 := Tryz.zeroValue205
 t145 := Tryz.underlying207
 a145 := Tryz.isAgg207
 z145 := Tryz.sizeOf207
 v145 := Tryz.zeroValue207
 t167 := Tryz.underlying186
 a167 := Tryz.isAgg186
 z167 := Tryz.sizeOf186
 v167 := Tryz.zeroValue186
 t168 := Tryz.underlying189
 a168 := Tryz.isAgg189
 z168 := Tryz.sizeOf189
 v168 := Tryz.zeroValue189
 t171 := Tryz.underlying209
 a171 := Tryz.isAgg209
 z171 := Tryz.sizeOf209
 v171 := Tryz.zeroValue209
 t173 := Tryz.underlying212
 a173 := Tryz.isAgg212
 z173 := Tryz.sizeOf212
 v173 := Tryz.zeroValue212
 t175 := Tryz.underlying198
 a175 := Tryz.isAgg198
 z175 := Tryz.sizeOf198
 v175 := Tryz.zeroValue198
 t210 := Tryz.underlying201
 a210 := Tryz.isAgg201
 z210 := Tryz.sizeOf201
 v210 := Tryz.zeroValue201
 t212 := Tryz.underlying215
 a212 := Tryz.isAgg215
 z212 := Tryz.sizeOf215
 v212 := Tryz.zeroValue215
 t213 := Tryz.underlying216
 a213 := Tryz.isAgg216
 z213 := Tryz.sizeOf216
 t232 := Tryz.underlying219
 a232 := Tryz.isAgg219
 z232 := Tryz.sizeOf219
 v232 := Tryz.zeroValue219
 t233 := Tryz.underlying220
 a233 := Tryz.isAgg220
 z233 := Tryz.sizeOf220
 v233 := Tryz.zeroValue220
 g15 := by kernel_rfl
 g16 := by kernel_rfl
 g17 := by kernel_rfl
 g18 := by kernel_rfl
 g19 := by kernel_rfl
 t80 := Tryz.underlying127
 a80 := Tryz.isAgg127
 z80 := Tryz.sizeOf127
 v80 := Tryz.zeroValue127
 i0 := by kernel_rfl
 i2 := by kernel_rfl
 i3 := by kernel_rfl
 i4 := by kernel_rfl
 i5 := by kernel_rfl
 i9 := by kernel_rfl
 i20 := by kernel_rfl
 i21 := by kernel_rfl
 i37 := by kernel_rfl
 i46 := by kernel_rfl
 i51 := by kernel_rfl
 i53 := by kernel_rfl
 i75 := by kernel_rfl
 i76 := by kernel_rfl
 i80 := by kernel_rfl
 i85 := by kernel_rfl
 i127 := by kernel_rfl
 i143 := by kernel_rfl
 i145 := by kernel_rfl
 i167 := by kernel_rfl
 i168 := by kernel_rfl
 i171 := by kernel_rfl
 i173 := by kernel_rfl
 i175 := by kernel_rfl
 i210 := by kernel_rfl
 i212 := by kernel_rfl
 i232 := by kernel_rfl
 i233 := by kernel_rfl
 m15 := by kernel_rfl
 m16 := by kernel_rfl
 m17 := by kernel_rfl
 m18 := by kernel_rfl
 m19 := by kernel_rfl
 c0 := by kernel_rfl
 c2 := by kernel_rfl
 c3 := by kernel_rfl
 c4 := by kernel_rfl
 c5 := by kernel_rfl
 c9 := by kernel_rfl
 c20 := by kernel_rfl
 c21 := by kernel_rfl
 c37 := by kernel_rfl
 c46 := by kernel_rfl
 c51 := by kernel_rfl
 c53 := by kernel_rfl
 c75 := by kernel_rfl
 c76 := by kernel_rfl
 c80 := by kernel_rfl
 c85 := by kernel_rfl
 c127 := by kernel_rfl
 c143 := by kernel_rfl
 c145 := by kernel_rfl
 c167 := by kernel_rfl
 c168 := by kernel_rfl
 c171 := by kernel_rfl
 c173 := by kernel_rfl
 c175 := by kernel_rfl
 c210 := by kernel_rfl
 c212 := by kernel_rfl
 c213 := by kernel_rfl
 c232 := by kernel_rfl
 c233 := by kernel_rfl }
def ErrL (w : World) : Prop := ∃ te pe, w.cell? ⟨4, 0, none⟩ = some (.iface te pe)
theorem ErrL.keep {w w' : World} (h : ErrL w) (k : Kp w w' n_) : ErrL w' := by
 obtain ⟨te, pe, h⟩ := h
 exact ⟨te, pe, zaE h k⟩
def AtoiK (l : List UInt8) (e : Ending) : Prop :=
 (∃ v, Lib.atoiAll l = .ok v ∧ e = .returned (.tuple #[.int .i64 v, .nilIface])) ∨ (Lib.atoiAll l = .range ∧ ∃ v t a, e = .returned (.tuple #[.int .i64 v, .iface t (.pointer (some a))]))
section
variable {w : World}
theorem zkD (s : List UInt8) (hE : ErrL w) (hs : s.length ≤ 100000000) (h : Lib.atoiAll s ≠ .syntax) : Calls Tryz.prog 170 #[.string (str s)] w fun e w' => AtoiK s e ∧ Kp w w' n_ := by
 have hz := zae s
 cases hv : Lib.atoiAll s with
 | ok v =>
  refine (Any.strconv_Atoi_ok zfR (str s) (by omega) v (by rw [show (str s).data.toList = s from L_str s]; exact hv) w).mono fun e w' h => ⟨.inl ⟨v, hv, h.1⟩, ?_⟩
  rcases h.2 with rfl | ⟨t, rfl⟩
  ·exact Kp.refl _ _
  ·exact (zbH w _ t).2
 | «syntax» => exact absurd hv h
 | range =>
  obtain ⟨te, pe, hE⟩ := hE
  refine (Any.strconv_Atoi_range zfR (str s) (by omega) (by rw [show (str s).data.toList = s from L_str s]; exact hv) (.iface te pe) w hE (.inr ⟨te, pe, rfl⟩)).mono fun e w' h => ?_
  obtain ⟨N, h1, h2, h3, h4⟩ := h
  exact ⟨.inr ⟨hv, _, _, _, h1⟩, Kp.of_below h4⟩
def numV (o : Option Nat) : Value :=
 match o with
 | none => .tuple #[.int .i64 0, .bool false]
 | some k => .tuple #[.int .i64 (k : Nat), .bool true]
structure AtoiF (s : List UInt8) : Prop where
 ok : ∀ v, Lib.atoiAll s = .ok v → numV (numC s) = if 0 ≤ v ∧ v ≤ 63 then .tuple #[.int .i64 v, .bool true] else .tuple #[.int .i64 0, .bool false]
 rng : Lib.atoiAll s = .range → numC s = none
 syn : Lib.atoiAll s ≠ .syntax
theorem zfd (s : List UInt8) (hE : ErrL w) (hs : s.length ≤ 100000000) : Calls Tryz.prog 147 #[.string (str s), .int .i64 0, .int .i64 63] w fun e w' => e = .returned (numV (numC s)) ∧ Kp w w' n_ := by
 have hz := zae s
 refine zaa (args := [.string (str s), .int .i64 0, .int .i64 63]) Tryz.func147 rfl NL ?_; refine GW ?_
 refine CallS.of (Tryz.call169 _ _) (zfq (str s) ⟨#[45]⟩ w) ?_
 rintro e w1 ⟨rfl, rfl⟩
 rw [L_str, show L ⟨#[45]⟩ = [45] from rfl]
 have hD : (∃ r, s = 45 :: r ∧ trimPrefix s [45] = r ∧ numC s = none) ∨ (trimPrefix s [45] = s) := by
  cases s with
  | nil => exact .inr rfl
  | cons c r =>
   by_cases hc : c = 45
   ·subst hc
    exact .inl ⟨r, rfl, rfl, zeI (.inl rfl)⟩
   ·have e : hasPrefix (c :: r) [45] = false := by
     show ((45 : UInt8) == c && List.isPrefixOf [] r) = false
     rw [beq_eq_false_iff_ne.2 (fun e => hc e.symm)]; rfl
    exact .inr (by unfold trimPrefix; rw [e]; rfl)
 have hDl : (trimPrefix s [45]).length ≤ s.length := by
  rcases hD with ⟨r, rfl, h, _⟩ | h
  ·rw [h]; simp
  ·rw [h]; exact Nat.le_refl _
 generalize trimPrefix s [45] = D at *
 have hno : D.all digC = false → numC s = none := fun h => by
  rcases hD with ⟨r, _, _, h1⟩ | h1
  ·exact h1
  ·rw [← h1]; exact zeI (.inl h)
 refine RT ?_
 refine KGO ?_
 refine RunV.rangeS Tryz.underlying9 ?_
 refine GW ?_
 have hi0 : (w.alloc (.stringIter (str D) 0)).heap[w.heap.size]? = some (.stringIter (str D) 0) := heap_alloc_new _ _
 have K1 : Kp w (w.alloc (.stringIter (str D) 0)) n_ := (Kp.refl _ _).alloc _
 generalize w.alloc (.stringIter (str D) 0) = w1 at *
 have hDz := zae D
 refine Loop.intro (ι := Nat) (fun i => [(0, .string (str s)), (1, .int .i64 0), (2, .int .i64 63), (8, .string (str D)), (16, .pointer (some ⟨w.heap.size, 0, none⟩))])
  (fun n wr => Kp w wr n_ ∧ n ≤ D.length ∧ wr.heap[w.heap.size]? = some (.stringIter (str D) n) ∧ (D.take n).all digC = true) (fun n => D.length - n) 0 ⟨rfl, rfl, rfl, rfl, rfl, trivial⟩
  ⟨K1, Nat.zero_le _, hi0, rfl⟩ ?_
 rintro n g wr ⟨hK, hn, hi, hp⟩
 refine GW ?_
 by_cases hlt : n < D.length
 ·refine RunV.nextS hi (by omega) ?_
  rw [L_str]
  have hdr : D.drop n = D[n] :: D.drop (n + 1) := List.drop_eq_getElem_cons hlt
  have hdd := zlz D[n] (D.drop (n + 1))
  have hst := zfa hlt hp
  have hno2 : digC D[n] = false → numC s = none := fun h => hno (zjg hlt (by rw [h]; simp))
  rw [← hdr] at hdd
  have hi2 : (setO wr w.heap.size (.stringIter (str D) (n + (decodeL (D.drop n)).2))).heap[w.heap.size]? = some (.stringIter (str D) (n + (decodeL (D.drop n)).2)) := zez _ (zcY hi)
  have K2 : Kp w (setO wr w.heap.size (.stringIter (str D) (n + (decodeL (D.drop n)).2))) n_ := hK.trans (zcF _) fun i hi h => by have h : i = w.heap.size := h; omega
  generalize setO wr w.heap.size (.stringIter (str D) (n + (decodeL (D.drop n)).2)) = w2 at *
  rcases hdd with ⟨h1, h2⟩ | ⟨h1, h2⟩
  ·rw [h2] at hi2 ⊢
   have hd : 48 ≤ D[n].toNat ∧ D[n].toNat ≤ 57 := of_decide_eq_true h1
   dsimp only
   refine KGO ?_
   exact ⟨n + 1, ⟨rfl, rfl, rfl, rfl, rfl, trivial⟩, ⟨K2, hlt, hi2, hst h1⟩, by dsimp only; omega⟩
  ·have hr := decodeL_rune (D.drop n)
   rw [hno2 h1]
   generalize (decodeL (D.drop n)).1 = r at *
   by_cases hr1 : r < 48
   ·refine KGO ?_
    exact ⟨rfl, K2⟩
   ·refine KGO ?_
    exact ⟨rfl, K2⟩
 ·refine RunV.nextE hi (by omega) ?_
  rw [List.take_of_length_le (by omega)] at hp
  cases D with
  | nil =>
   have hn0 : numC s = none := by
    rcases hD with ⟨r, _, _, h1⟩ | h1
    ·exact h1
    ·rw [← h1]; exact zeI (.inr (.inl rfl))
   rw [hn0]
   refine KGO ?_
   exact ⟨rfl, hK⟩
  | cons d r =>
   have hd : 48 ≤ d.toNat ∧ d.toNat ≤ 57 := by
    rw [List.all_cons, Bool.and_eq_true] at hp
    exact of_decide_eq_true hp.1
   have hsz : (str (d :: r)).size = r.length + 1 := rfl
   refine KGO ?_
   rw [decide_eq_false zbQ]
   refine KGO ?_
   rw [show byteAt (str (d :: r)) 0 = d from rfl]
   by_cases h48 : d = 48
   ·subst h48
    by_cases h0 : s = [48]
    ·subst h0
     have hf : AtoiF [48] := ⟨fun v hv => by
      have e : Lib.atoiAll [48] = .ok 0 := by decide
      rw [e] at hv
      injection hv with hv
      subst hv
      rw [show numC [48] = some 0 by decide, if_pos (by decide)]; rfl, fun h => by revert h; decide, by decide⟩
     refine KGO ?_
     have hf1 := hf.ok
     have hf2 := hf.rng
     refine CallS.of (Tryz.call170 _ _) (zkD [48] (hE.keep hK) hs hf.syn) ?_
     rintro e w3 ⟨he, k3⟩
     have K3 := hK.trans0 k3
     rcases he with ⟨v, hv, rfl⟩ | ⟨hv, v, t, a, rfl⟩
     ·rw [hf1 v hv]
      refine RT ?_
      by_cases h1 : v < 0
      ·rw [if_neg (by omega)]
       refine KGO ?_
       exact ⟨rfl, K3⟩
      ·by_cases h2 : 63 < v
       ·rw [if_neg (by omega)]
        refine KGO ?_
        exact ⟨rfl, K3⟩
       ·rw [if_pos (by omega)]
        refine KGO ?_
        exact ⟨rfl, K3⟩
     ·rw [hf2 hv]
      refine RT ?_
      refine KGO ?_
      exact ⟨rfl, K3⟩
    ·have hn0 : numC s = none := by
      rcases hD with ⟨r, _, _, h1⟩ | h1
      ·exact h1
      ·rw [← h1] at h0 ⊢; exact zeI (.inr (.inr ⟨rfl, h0⟩))
     rw [hn0]
     refine KGO ?_
     rw [decide_eq_false (fun e => h0 (zaD.1 (e.trans (show (⟨#[48]⟩ : ByteArray) = str [48] from rfl))))]
     refine KGO ?_
     exact ⟨rfl, hK⟩
   ·have n48 : ¬ (d.toNat : Int) = 48 := zaL h48
    have hf : AtoiF s := by
     rcases hD with ⟨r', rfl, h1, h2⟩ | h1
     ·subst h1
      have hv1 : 1 ≤ valN (d :: r) 0 := by
       have h3 := zgt r (0 * 10 + (d.toNat - 48))
       have h4 : valN (d :: r) 0 = valN r (0 * 10 + (d.toNat - 48)) := rfl
       omega
      rcases atoi_neg hp (by simp) with e | e
      ·exact ⟨fun v hv => by (rw [e] at hv; injection hv with hv; rw [h2, if_neg (by omega)]; rfl), fun _ => h2, by rw [e]; intro h; cases h⟩
      ·exact ⟨fun v hv => by (rw [e] at hv; cases hv), fun _ => h2, by rw [e]; intro h; cases h⟩
     ·subst h1
      have hy := zjK hp (by simp) (fun e => absurd (by simpa using e) h48)
      rcases atoi_pos hp (by simp) with e | ⟨e, hb⟩
      ·refine ⟨fun v hv => ?_, fun h => by (rw [e] at h; cases h), by rw [e]; intro h; cases h⟩
       rw [e] at hv; injection hv with hv
       subst hv
       rw [hy]
       by_cases h63 : valN (d :: r) 0 ≤ 63
       ·rw [if_pos h63, if_pos (by omega)]; rfl
       ·rw [if_neg h63, if_neg (by omega)]; rfl
      ·exact ⟨fun v hv => by (rw [e] at hv; cases hv), fun _ => by rw [hy, if_neg (by omega)], by rw [e]; intro h; cases h⟩
    refine KGO ?_
    have hf1 := hf.ok
    have hf2 := hf.rng
    refine CallS.of (Tryz.call170 _ _) (zkD s (hE.keep hK) hs hf.syn) ?_
    rintro e w3 ⟨he, k3⟩
    have K3 := hK.trans0 k3
    rcases he with ⟨v, hv, rfl⟩ | ⟨hv, v, t, a, rfl⟩
    ·rw [hf1 v hv]
     refine RT ?_
     by_cases h1 : v < 0
     ·rw [if_neg (by omega)]
      refine KGO ?_
      exact ⟨rfl, K3⟩
     ·by_cases h2 : 63 < v
      ·rw [if_neg (by omega)]
       refine KGO ?_
       exact ⟨rfl, K3⟩
      ·rw [if_pos (by omega)]
       refine KGO ?_
       exact ⟨rfl, K3⟩
    ·rw [hf2 hv]
     refine RT ?_
     refine KGO ?_
     exact ⟨rfl, K3⟩
end
section
variable {w : World}
def hexD : List UInt8 := [48, 49, 50, 51, 52, 53, 54, 55, 56, 57, 97, 98, 99, 100, 101, 102]
def hexV (c : UInt8) : Int := match hexC c with | some n => (n : Nat) | none => -1
theorem zkY : ∀ n : Fin 256, Lib.indexByte hexD (if 65 ≤ n.val ∧ n.val ≤ 70 then UInt8.ofNat (n.val + 32) else UInt8.ofNat n.val) = hexV (UInt8.ofNat n.val) := by decide +kernel
theorem zgG (c d : UInt8) (h : d.toNat = if 65 ≤ c.toNat ∧ c.toNat ≤ 70 then c.toNat + 32 else c.toNat) : Lib.indexByte hexD d = hexV c := by
 have h1 := zkY ⟨c.toNat, UInt8.toNat_lt c⟩
 dsimp only at h1
 have e : UInt8.ofNat c.toNat = c := UInt8.ofNat_toNat
 rw [e] at h1
 rw [← h1]
 congr 1
 apply UInt8.toNat_inj.1
 rw [h]
 split
 ·rename_i h2
  rw [UInt8.toNat_ofNat']; omega
 ·rfl
theorem zgW (c : UInt8) (w : World) : Calls Tryz.prog 191 #[.int .u8 c.toNat] w fun e w' => e = .returned (.int .i64 (hexV c)) ∧ Kp w w' n_ := by
 have hc := UInt8.toNat_lt c
 refine zaa (args := [.int .u8 c.toNat]) Tryz.func191 rfl NL ?_; refine GW ?_
 by_cases h1 : 65 ≤ c.toNat
 ·by_cases h2 : c.toNat ≤ 70
  ·obtain ⟨d, hd⟩ : ∃ d : UInt8, d.toNat = c.toNat + 32 := ⟨UInt8.ofNat (c.toNat + 32), by rw [UInt8.toNat_ofNat']; omega⟩
   refine KGO ?_
   rw [show ((c.toNat : Nat) : Int) + 32 = ((d.toNat : Nat) : Int) by rw [hd]; rfl]
   refine CallS.of (Tryz.call63 _ _) (zaG ⟨#[48, 49, 50, 51, 52, 53, 54, 55, 56, 57, 97, 98, 99, 100, 101, 102]⟩ d w) ?_
   rintro e w1 ⟨rfl, rfl⟩
   refine RT ?_
   rw [show L ⟨#[48, 49, 50, 51, 52, 53, 54, 55, 56, 57, 97, 98, 99, 100, 101, 102]⟩ = hexD from rfl, zgG c d (by rw [if_pos ⟨h1, h2⟩]; exact hd)]
   exact ⟨rfl, Kp.refl _ _⟩
  ·refine KGO ?_
   refine CallS.of (Tryz.call63 _ _) (zaG ⟨#[48, 49, 50, 51, 52, 53, 54, 55, 56, 57, 97, 98, 99, 100, 101, 102]⟩ c w) ?_
   rintro e w1 ⟨rfl, rfl⟩
   refine RT ?_
   rw [show L ⟨#[48, 49, 50, 51, 52, 53, 54, 55, 56, 57, 97, 98, 99, 100, 101, 102]⟩ = hexD from rfl, zgG c c (by rw [if_neg (by omega)])]
   exact ⟨rfl, Kp.refl _ _⟩
 ·refine KGO ?_
  refine CallS.of (Tryz.call63 _ _) (zaG ⟨#[48, 49, 50, 51, 52, 53, 54, 55, 56, 57, 97, 98, 99, 100, 101, 102]⟩ c w) ?_
  rintro e w1 ⟨rfl, rfl⟩
  refine RT ?_
  rw [show L ⟨#[48, 49, 50, 51, 52, 53, 54, 55, 56, 57, 97, 98, 99, 100, 101, 102]⟩ = hexD from rfl, zgG c c (by rw [if_neg (by omega)])]
  exact ⟨rfl, Kp.refl _ _⟩
theorem zfN : ∀ p q : Fin 16, IntKind.u8.wrap (IntKind.i64.wrap ((BitVec.ofInt IntKind.i64.bits (IntKind.i64.wrap ((p.val : Int) * 2 ^ min (Int.toNat 4) IntKind.i64.bits)) ||| BitVec.ofInt IntKind.i64.bits (q.val : Int)).toNat : Int)) = (((UInt8.ofNat (p.val * 16 + q.val)).toNat : Nat) : Int) := by decide +kernel
theorem zkd (p q : Nat) (hp : p < 16) (hq : q < 16) : IntKind.u8.wrap (IntKind.i64.wrap ((BitVec.ofInt IntKind.i64.bits (IntKind.i64.wrap ((p : Int) * 2 ^ min (Int.toNat 4) IntKind.i64.bits)) ||| BitVec.ofInt IntKind.i64.bits (q : Int)).toNat : Int)) = (((UInt8.ofNat (p * 16 + q)).toNat : Nat) : Int) := zfN ⟨p, hp⟩ ⟨q, hq⟩
def unV (o : Option UInt8) : Value :=
 match o with
 | none => .tuple #[.string ⟨#[]⟩, .bool false]
 | some x => .tuple #[.string (str [x]), .bool true]
theorem makeU8 : makeT Tryz.prog 107 = some (5, .int .u8 0, 1) := by kernel_rfl
theorem zkv (a b : UInt8) (w : World) : Calls Tryz.prog 173 #[.string (str [a, b])] w fun e w' => e = .returned (unV (unhexC a b)) ∧ Kp w w' n_ := by
 have hz : (str [a, b]).size = 2 := rfl
 refine zaa (args := [.string (str [a, b])]) Tryz.func173 rfl NL ?_; refine GW ?_
 rw [show decide (((str [a, b]).size : Int).tmod 2 > 0) = false by rw [hz]; decide]
 refine KGO ?_
 rw [show (((str [a, b]).size : Nat) : Int).tdiv 2 = ((1 : Nat) : Int) by rw [hz]; decide]
 refine RunV.make 1 1 makeU8 (by rfl) (Nat.le_refl _) (by omega) (by omega) ?_
 refine KGO ?_
 have v0 : VarK (w.alloc (.cells (Array.replicate 1 (.int .u8 0)) 5)) w.heap.size 5 [.int .u8 0] := VarK.new w 5 [.int .u8 0]
 have K0 : Kp w (w.alloc (.cells (Array.replicate 1 (.int .u8 0)) 5)) n_ := (Kp.refl _ _).alloc _
 generalize w.alloc (.cells (Array.replicate 1 (.int .u8 0)) 5) = w1 at *
 obtain ⟨mb, hmb⟩ : ∃ mb, mb = w.heap.size := ⟨_, rfl⟩
 rw [← hmb] at v0 ⊢
 refine Loop.intro (ι := Nat × UInt8) (fun i => [(0, .string (str [a, b])), (4, .func (.func 191) #[] #[]), (5, .slice (some ⟨mb, 0, none⟩) 1 1), (18, .int .i64 ((1 : Nat) : Int)), (19, .int .i64 (i.1 : Nat))])
  (fun i wr => Kp w wr n_ ∧ i.1 ≤ 1 ∧ VarK wr mb 5 [.int .u8 (i.2.toNat : Nat)] ∧ (i.1 = 1 → unhexC a b = some i.2)) (fun i => 1 - i.1) (0, 0) ⟨rfl, rfl, rfl, rfl, rfl, trivial⟩
  ⟨K0, Nat.zero_le _, v0, fun h => by cases h⟩ ?_
 rintro ⟨i, x⟩ g wr ⟨hK, hi, hv, hx⟩
 dsimp only at hi hv hx ⊢
 refine GW ?_
 by_cases hlt : i < 1
 ·obtain rfl : i = 0 := by omega
  have kd := (Kp.refl wr n_).drew
  refine KGO ?_
  rw [show byteAt (str [a, b]) 0 = a from rfl]
  refine CallS.of (Tryz.call191 _ _) (zgW a wr.drew) ?_
  rintro e w2 ⟨rfl, k2⟩
  refine RT ?_
  refine KGO ?_
  rw [show byteAt (str [a, b]) 1 = b from rfl]
  refine CallS.of (Tryz.call191 _ _) (zgW b w2) ?_
  rintro e w3 ⟨rfl, k3⟩
  have kr := (kd.trans0 k2).trans0 k3
  have K3 := hK.trans0 kr
  refine RT ?_
  have hx0 : unhexC a b = match hexC a, hexC b with | some x, some y => some (UInt8.ofNat (x * 16 + y)) | _, _ => none := rfl
  unfold hexV
  cases ha : hexC a with
  | none =>
   rw [show unhexC a b = none by rw [hx0, ha]]
   dsimp only
   refine KGO ?_
   exact ⟨rfl, K3⟩
  | some p =>
   cases hb : hexC b with
   | none =>
    rw [show unhexC a b = none by rw [hx0, ha, hb]]
    dsimp only
    refine KGO ?_
    exact ⟨rfl, K3⟩
   | some q =>
    have hu : unhexC a b = some (UInt8.ofNat (p * 16 + q)) := by rw [hx0, ha, hb]
    have hp : p < 16 ∧ q < 16 := by
     unfold hexC at ha hb
     constructor
     ·split at ha
      ·injection ha; omega
      ·split at ha
       ·injection ha; omega
       ·split at ha
        ·injection ha; omega
        ·cases ha
     ·split at hb
      ·injection hb; omega
      ·split at hb
       ·injection hb; omega
       ·split at hb
        ·injection hb; omega
        ·cases hb
    dsimp only
    refine KGO ?_
    rw [zkd p q hp.1 hp.2]
    refine Store.cellK (i := 0) (hv.keep0 kr) (by simp) (by rfl) ⟨rfl, by simp, by simp⟩ fun w4 v4 k4 => ?_
    have K4 := zab K3 k4 (by omega)
    refine KGO ?_
    exact ⟨(1, UInt8.ofNat (p * 16 + q)), ⟨rfl, rfl, rfl, rfl, v_int (by simp), trivial⟩, ⟨K4, Nat.le_refl _, v4, fun _ => hu⟩, by dsimp only; omega⟩
 ·obtain rfl : i = 1 := by omega
  have hb : Bs wr mb [x] := ⟨hv.at, fun j _ => hv.frozen _⟩
  rw [hx rfl]
  refine KGO ?_
  refine RunV.back Tryz.underlying107 Tryz.underlying5 Tryz.underlying9 hb ?_
  refine KGO ?_
  exact ⟨rfl, hK⟩
end
end Go.Proofs.YtmjeacpoobbjjaaGreatDoor
namespace Go.Proofs.YtmjeacpoobbjjaaGreatDoor
open Go.RowKit Go.Pw Go.Vc Go.Cs Go.Lib
section
variable {w : World}
theorem zlM : sgn 4 = sgn 0 := by
 funext b
 unfold sgn
 simp
theorem kind_cases (l : List UInt8) : Cs.kind l = 1 ∨ Cs.kind l = 2 ∨ Cs.kind l = 3 ∨ Cs.kind l = 4 ∨ Cs.kind l = 0 := by
 have := zlh l
 omega
theorem zlA (w : World) : (zeroValue 68).run Tryz.prog w = .ok .nilFunc w := Tryz.zeroValue68 w
theorem ziM (nm s : ByteArray) (hT : Tabs w) (hn : nm.size ≤ 100000000) (hs : s.size ≤ 100000000) : Calls Tryz.prog 172 #[.string nm, .string s] w fun e w' =>
  e = .returned (.tuple #[.string (str (decodeS (L nm) (L s))), .bool (decide (0 < Cs.kind (L nm)))]) ∧ Kp w w' n_ := by
 refine zaa (args := [.string nm, .string s]) Tryz.func172 rfl NL ?_; refine GW ?_
 refine CallS.of (Tryz.call187 _ _) zhA ?_
 rintro e w1 ⟨b, b1, b2, b3, rfl, hm, c1, c2, c3, k1⟩
 refine RT ?_
 refine CallS.of (Tryz.call188 _ _) (zjS nm hn) ?_
 rintro e w2 ⟨rfl, k2⟩
 refine RT ?_
 have hb : b < w1.heap.size := by
  obtain ⟨es, cl, h, _⟩ := hm
  rcases Nat.lt_or_ge b w1.heap.size with h' | h'
  ·exact h'
  ·rw [Array.getElem?_eq_none h'] at h; cases h
 have hm2 : SMap w2 b (tbl b1 b2 b3) := by
  obtain ⟨es, cl, h, h'⟩ := hm
  exact ⟨es, cl, (k2.block b hb id).trans h, h'⟩
 have c1 := (k2.cell (p := ⟨b1, 0, none⟩) (zaU c1) id).trans c1
 have c2 := (k2.cell (p := ⟨b2, 0, none⟩) (zaU c2) id).trans c2
 have c3 := (k2.cell (p := ⟨b3, 0, none⟩) (zaU c3) id).trans c3
 have K2 := k1.trans0 k2
 have kk : kindL ((L nm).map lowerB) = Cs.kind (L nm) := rfl
 refine RunV.look Tryz.underlying180 Tryz.underlying9 (zlA _) hm2 _ ?_
 rw [zln, kk]
 unfold decodeS
 show Then _ _ _ _ _ _ _ _
 rcases kind_cases (L nm) with h | h | h | h | h
 ·rw [h]
  refine GO ?_
  refine CallS.of (Tryz.call207 _ _) (zbf 205 1 b1 s zgB c1 hs) ?_
  rintro e w3 ⟨rfl, k3⟩
  refine RT ?_
  exact ⟨rfl, K2.trans0 k3⟩
 ·rw [h]
  refine GO ?_
  refine CallS.of (Tryz.call171 _ _) (zfL s (hT.keep K2) hs) ?_
  rintro e w3 ⟨rfl, k3⟩
  refine RT ?_
  exact ⟨rfl, K2.trans0 k3⟩
 ·rw [h]
  refine GO ?_
  refine CallS.of (Tryz.call207 _ _) (zbf 206 3 b2 s zgd c2 hs) ?_
  rintro e w3 ⟨rfl, k3⟩
  refine RT ?_
  exact ⟨rfl, K2.trans0 k3⟩
 ·rw [h, zlM]
  refine GO ?_
  refine CallS.of (Tryz.call207 _ _) (zbf 190 0 b3 s zci c3 hs) ?_
  rintro e w3 ⟨rfl, k3⟩
  refine RT ?_
  exact ⟨rfl, K2.trans0 k3⟩
 ·rw [h]
  refine GO ?_
  refine CallS.of (Tryz.call189 _ _) (zbz 190) ?_
  rintro e w3 ⟨b4, rfl, c4, k3⟩
  refine RT ?_
  refine CallS.of (Tryz.call207 _ _) (zbf 190 0 b4 s zci c4 hs) ?_
  rintro e w4 ⟨rfl, k4⟩
  refine RT ?_
  exact ⟨rfl, (K2.trans0 k3).trans0 k4⟩
end
end Go.Proofs.YtmjeacpoobbjjaaGreatDoor
namespace Go.Proofs.YtmjeacpoobbjjaaGreatDoor
open Go.Shelf Go.RowKit Go.Pw Go.Vc Go.Cs Go.Lib Go.Tk Go.Hd Go.Ty
section
variable {w : World}
theorem zid (c : UInt8) (w : World) : Calls Tryz.prog 111 #[.int .u8 c.toNat] w fun e w' => e = .returned (.bool (letC c)) ∧ Kp w w' n_ := by
 have hc := UInt8.toNat_lt c
 unfold letC
 refine zaa (args := [.int .u8 c.toNat]) Tryz.func111 rfl NL ?_; refine GW ?_
 by_cases h1 : 97 ≤ c.toNat
 ·by_cases h2 : c.toNat ≤ 122
  ·refine KGO ?_
   exact ⟨by simp [h1, h2], Kp.refl _ _⟩
  ·have h3 : 65 ≤ c.toNat := by omega
   have h4 : ¬ c.toNat ≤ 90 := by omega
   have h5 : 48 ≤ c.toNat := by omega
   have h6 : ¬ c.toNat ≤ 57 := by omega
   refine KGO ?_
   exact ⟨by simp [h1, h2, h3, h4, h5, h6] <;> omega, Kp.refl _ _⟩
 ·by_cases h3 : 65 ≤ c.toNat
  ·by_cases h4 : c.toNat ≤ 90
   ·refine KGO ?_
    exact ⟨by simp [h1, h3, h4], Kp.refl _ _⟩
   ·have h5 : 48 ≤ c.toNat := by omega
    have h6 : ¬ c.toNat ≤ 57 := by omega
    refine KGO ?_
    exact ⟨by simp [h1, h3, h4, h5, h6] <;> omega, Kp.refl _ _⟩
  ·by_cases h5 : 48 ≤ c.toNat
   ·by_cases h6 : c.toNat ≤ 57
    ·refine KGO ?_
     exact ⟨by simp [h1, h3, h5, h6] <;> omega, Kp.refl _ _⟩
    ·refine KGO ?_
     exact ⟨by simp [h1, h3, h5, h6] <;> omega, Kp.refl _ _⟩
   ·refine KGO ?_
    exact ⟨by simp [h1, h3, h5], Kp.refl _ _⟩
def okW (c : UInt8) : Bool := letC c || wordB.contains c
theorem ziD (s : List UInt8) (hs : s.length ≤ 1000000000) (w : World) : Calls Tryz.prog 79 #[.string (str s)] w fun e w' => e = .returned (.bool (wordC s)) ∧ Kp w w' n_ := by
 have hz := zae s
 have hrd : wordC s = (s.all okW && !s.isEmpty) := rfl
 refine zaa (args := [.string (str s)]) Tryz.func79 rfl NL ?_; refine GW ?_
 rw [hz]
 refine Loop.intro (ι := Nat) (fun i => [(0, .string (str s)), (5, .int .i64 (s.length : Nat)), (6, .int .i64 (i : Nat))])
  (fun i wr => Kp w wr n_ ∧ i ≤ s.length ∧ (s.take i).all okW = true) (fun i => s.length - i) 0 ⟨rfl, rfl, rfl, trivial⟩ ⟨Kp.refl _ _, Nat.zero_le _, rfl⟩ ?_
 rintro i g wr ⟨hK, hi, hp⟩
 refine GW ?_
 by_cases hlt : i < s.length
 ·refine KGO ?_
  have hno : okW s[i] = false → wordC s = false := fun h => by rw [hrd, zjg hlt (by rw [h]; simp)]; rfl
  have hst := zfa hlt hp
  rw [zbk hlt]
  obtain ⟨c, hc⟩ : ∃ c, c = s[i] := ⟨_, rfl⟩
  rw [← hc] at hno hst ⊢
  refine CallS.of (Tryz.call111 _ _) (zid c wr) ?_
  rintro e w1 ⟨rfl, k1⟩
  have K1 := hK.trans0 k1
  cases hl : letC c
  ·refine RT ?_
   refine KGO ?_
   rw [zbk hlt, ← hc]
   refine CallS.of (Tryz.call63 _ _) (zaG ⟨#[33, 35, 36, 38, 94, 95, 46, 43, 45]⟩ c w1) ?_
   rintro e w2 ⟨rfl, rfl⟩
   rw [show L ⟨#[33, 35, 36, 38, 94, 95, 46, 43, 45]⟩ = wordB from rfl]
   have hx := zgf wordB c
   cases hb : wordB.contains c
   ·have hx := hx.2 hb
    rw [hno (by unfold okW; rw [hl, hb]; rfl)]
    refine RT ?_
    refine KGO ?_
    exact ⟨rfl, K1⟩
   ·have hx2 : ¬ indexByte wordB c < 0 := fun h => by rw [hx.1 h] at hb; cases hb
    refine RT ?_
    refine KGO ?_
    exact ⟨i + 1, ⟨rfl, rfl, v_int (by simp), trivial⟩, ⟨K1, hlt, hst (by unfold okW; rw [hl, hb]; rfl)⟩, by dsimp only; omega⟩
  ·refine RT ?_
   refine KGO ?_
   exact ⟨i + 1, ⟨rfl, rfl, v_int (by simp), trivial⟩, ⟨K1, hlt, hst (by unfold okW; rw [hl]; rfl)⟩, by dsimp only; omega⟩
 ·rw [List.take_of_length_le (by omega)] at hp
  refine KGO ?_
  refine ⟨?_, hK⟩
  rw [hrd, hp]
  cases s with
  | nil => rfl
  | cons c r => rw [decide_eq_false zbQ]; rfl
end
end Go.Proofs.YtmjeacpoobbjjaaGreatDoor
