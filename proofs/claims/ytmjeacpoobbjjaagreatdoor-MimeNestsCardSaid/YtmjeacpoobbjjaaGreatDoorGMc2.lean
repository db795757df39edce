/- Helper lemmas that the proved statement rests on; no conditions of their own. -/
import Derived.Test.YtmjeacpoobbjjaaGreatDoorRows
import Derived.PinnedBridge
import Derived.Lib.LaidU8
import Derived.Shelf.Vars
import Derived.Handed
import Derived.Test.YtmjeacpoobbjjaaGreatDoorGMb8
set_option linter.unusedVariables false
set_option maxHeartbeats 16000000
set_option maxRecDepth 100000
namespace Go.Proofs.YtmjeacpoobbjjaaGreatDoor
open Go.Shelf Go.RowKit Go.Pw Go.Vc Go.Cs Go.Lib Go.Tk Go.Hd Go.Ty Go.Me
section
variable {w : World}
theorem zkg : makeT Tryz.prog 36 = some (3, .int .i64 0, 8) := by kernel_rfl
abbrev inV (l : List Int) : List Value := l.map (Value.int .i64)
theorem zhS (s : List UInt8) (hs : s.length ≤ 140737488355328) (hT : Tabs w) (hm : MaxL w) (hE : ErrL w) : Calls Tryz.prog 4 #[.string (str s)] w fun e w' => e = .returned (.bool true) ∧ Kp w w' n_ := by
 have hz := zae s
 refine zaa (args := [.string (str s)]) Tryz.func4 rfl NL ?_; refine GW ?_
 refine CallS.of (Tryz.call9 _ _) (zhR hT hm hE) ?_
 rintro e w1 ⟨rfl, k1⟩
 refine RT ?_
 by_cases h3 : 3000 < s.length
 ·refine KGO ?_
  exact ⟨rfl, k1⟩
 refine KGO ?_
 refine CallS.of (Tryz.call11 _ _) (zeO (w := w1) s (hT.keep k1) (hm.keep k1) (hE.keep k1) (by omega)) ?_
 rintro e w2 ⟨v, l, rfl, ps, hl, k2⟩
 obtain ⟨hgd, h64⟩ := zhN s
 rw [← hl] at hgd h64
 rw [List.length_map] at h64
 obtain ⟨av, cv, rfl⟩ := zad ps.row
 obtain ⟨p0, hp0, ok0, u0, d0, f0, t0⟩ := hgd.root_at
 have hln : 0 < l.length := by
  have := (List.getElem?_eq_some_iff.1 hp0).1
  rw [List.length_map] at this; exact this
 obtain ⟨g, rfl, hB, hg, hat⟩ := zfA ps.row hln
 have he0 : l[0].1 = p0 := by
  rw [List.getElem?_map, List.getElem?_eq_getElem hln] at hp0
  simpa using hp0
 have q2 := Kp.refl w2 n_
 have hu0 : l[0].1.up = -1 := by rw [he0]; exact u0
 have hd0 : l[0].1.depth = 0 := by rw [he0]; exact d0
 have hf0 : l[0].1.from = 0 := by rw [he0]; exact f0
 have ht0 : l[0].1.to = (s.length : Int) := by rw [he0]; exact t0
 refine RT ?_
 refine KGO ?_
 refine RunV.make l.length l.length zkg (by rfl) (Nat.le_refl _) (by omega) (by omega) ?_
 have v0 : VarK (w2.alloc (.cells (Array.replicate l.length (.int .i64 0)) 3)) w2.heap.size 3 (inV (List.replicate l.length 0)) := by
  have := VarK.new w2 3 (inV (List.replicate l.length 0))
  simpa [inV] using this
 have K0 : Kp w2 (w2.alloc (.cells (Array.replicate l.length (.int .i64 0)) 3)) n_ := (Kp.refl _ _).alloc _
 generalize w2.alloc (.cells (Array.replicate l.length (.int .i64 0)) 3) = w3 at *
 obtain ⟨bL, hbL⟩ : ∃ bL, bL = w2.heap.size := ⟨_, rfl⟩
 rw [← hbL] at v0 ⊢
 refine KGO ?_
 refine Loop.intro (ι := Nat × List Int) (fun i => [(0, .string (str s)), (3, .bool true), (4, .slice (some ⟨g, 0, none⟩) l.length cv), (5, .slice (some ⟨bL, 0, none⟩) l.length l.length), (6, .int .i64 (i.1 : Nat))])
  (fun i wr => Kp w2 wr n_ ∧ i.2.length = l.length ∧ VarK wr bL 3 (inV i.2) ∧ i.1 ≤ l.length ∧ ∀ j, j < i.1 → i.2[j]? = some (lastA ((l.map (·.1)).take i.1) j)) (fun i => l.length - i.1) (0, List.replicate l.length 0) ⟨rfl, rfl, rfl, rfl, rfl, trivial⟩
  ⟨K0, List.length_replicate, v0, Nat.zero_le _, fun j h => by omega⟩ ?_
 rintro ⟨i, lv⟩ gg wr ⟨hK, hlv, hv, hi, hla⟩
 dsimp only at hlv hv hi hla ⊢
 refine GW ?_
 by_cases hlt : i < l.length
 ·have hgi : (l.map (·.1))[i]? = some l[i].1 := by rw [List.getElem?_map, List.getElem?_eq_getElem hlt]; rfl
  have ok := hgd.ok_at i _ hgi
  have hat0 := hat
  have hat := zar hat hK
  have qr := Kp.refl wr n_
  refine KGO ?_
  obtain ⟨X, hX⟩ : ∃ X : PI, X = l[i] := ⟨_, rfl⟩
  rw [← hX] at ok hgi ⊢
  obtain ⟨a_b7, v_b7, k_w7, z_w7, r_w7⟩ := new5 wr 26 ([.int .i64 0, .int .i64 0, .int .i64 0, .int .i64 0, .int .i64 0, .string ⟨#[]⟩, .string ⟨#[]⟩, .slice none 0 0, .string ⟨#[]⟩])
  generalize wr.alloc (.cells (List.toArray ([.int .i64 0, .int .i64 0, .int .i64 0, .int .i64 0, .int .i64 0, .string ⟨#[]⟩, .string ⟨#[]⟩, .slice none 0 0, .string ⟨#[]⟩])) 26) = w7 at *
  generalize hs_b7 : wr.heap.size = b7 at *
  refine KGO ?_
  refine SVK (ptE X) v_b7 fun w8 v8 k8 => ?_
  have kr8 := zab k_w7 k8 (by omega)
  have K8 := hK.trans0 kr8
  have hv8 := hv.keep0 kr8
  obtain ⟨⟨up, dp, fr, bd, te, ty, cd⟩, sl⟩ := X
  have h1 := ok.f0; have h2 := ok.fb; have h3' := ok.bt; have h4 := ok.tn
  dsimp only at h1 h2 h3' h4
  obtain ⟨x, rfl⟩ : ∃ x : Nat, fr = x := ⟨fr.toNat, by omega⟩
  obtain ⟨b, rfl⟩ : ∃ b : Nat, bd = b := ⟨bd.toNat, by omega⟩
  obtain ⟨t, rfl⟩ : ∃ t : Nat, te = t := ⟨te.toNat, by omega⟩
  have hTK : (l.map (·.1)).take (i + 1) = (l.map (·.1)).take i ++ [⟨up, dp, x, b, t, ty, cd⟩] := by
   have hm : i < (l.map (·.1)).length := by rw [List.length_map]; exact hlt
   rw [List.take_succ_eq_append_getElem hm]
   rw [List.getElem?_eq_getElem hm] at hgi
   injection hgi with hgi
   rw [hgi]
  have hGd : Me.Good s.length ((l.map (·.1)).take i ++ [⟨up, dp, x, b, t, ty, cd⟩]) := by
   rw [← hTK]; exact hgd.take (i + 1) (by omega) (by rw [List.length_map]; omega)
  have htl : ((l.map (·.1)).take i).length = i := by rw [List.length_take, List.length_map]; omega
  have hnew : lastA ((l.map (·.1)).take (i + 1)) i = (b : Int) := by
   rw [hTK]
   have := zfO hGd
   rw [htl] at this
   exact this
  have hfit : fitsM s.length ⟨up, dp, x, b, t, ty, cd⟩ = true := decide_eq_true ⟨h1, h2, h3', h4⟩
  have hraw : rawM s ⟨up, dp, x, b, t, ty, cd⟩ = (s.take t).drop x := by unfold rawM; rw [if_pos hfit]; rfl
  have hbody : bodyM s ⟨up, dp, x, b, t, ty, cd⟩ = (s.take t).drop b := by unfold bodyM; rw [if_pos hfit]; rfl
  have hupi := hgd.up i _ hgi
  dsimp only at hupi
  have hup0 : 0 < i → 0 ≤ up := fun h => (hgd.step_at i _ h hgi).up0
  have a8 : At w8 b7 0 [.int .i64 up, .int .i64 dp, .int .i64 (x : Nat), .int .i64 (b : Nat), .int .i64 (t : Nat), .string (str ty.kind), .string (str ty.sub), .slice sl.a sl.n sl.c, .string (str cd)] := v8.at
  have q8 := Kp.refl w8 n_
  have kd8 := (Kp.refl w8 n_).drew
  refine KGO ?_
  refine Draw.heldEnd (fun u => Kp w8 u n_) (fun _ => true) (by simp) (by decide +kernel) (by decide +kernel) kd8 ?_
  refine GW ?_
  refine KGO ?_
  refine CallS.of (Tryz.call16 _ _) (zik s ⟨up, dp, x, b, t, ty, cd⟩ sl (by omega) w8.drew) ?_
  rintro e w9 ⟨rfl, k9⟩
  have k89 := kd8.trans0 k9
  rw [hraw]
  refine RT ?_
  refine ⟨k89, ?_⟩
  refine KGO ?_
  rw [zbc, show decide (str ((s.take t).drop x) = str ((s.take t).drop x)) = true from decide_eq_true rfl]
  refine KGO ?_
  refine CallS.of (Tryz.call18 _ _) (zgo s ⟨up, dp, x, b, t, ty, cd⟩ sl (by omega) w9) ?_
  rintro e w10 ⟨rfl, k10⟩
  have k810 := k89.trans0 k10
  rw [hbody]
  refine RT ?_
  refine ⟨k810, ?_⟩
  refine KGO ?_
  rw [zbc, show decide (str ((s.take t).drop b) = str ((s.take t).drop b)) = true from decide_eq_true rfl]
  have hv10 := hv8.keep0 k810
  have K10 := K8.trans0 k810
  have v10 := v8.keep0 k810
  have a10 : At w10 b7 0 [.int .i64 up, .int .i64 dp, .int .i64 (x : Nat), .int .i64 (b : Nat), .int .i64 (t : Nat), .string (str ty.kind), .string (str ty.sub), .slice sl.a sl.n sl.c, .string (str cd)] := v10.at
  have q10 := Kp.refl w10 n_
  have hlen10 : (inV lv).length = l.length := by rw [List.length_map, hlv]
  by_cases hi0 : i = 0
  ·subst hi0
   refine KGO ?_
   refine Store.cellK (i := 0) hv10 (by omega) (by rfl) ⟨rfl, by simp, by simp⟩ fun w11 v11 k11 => ?_
   have v11' : VarK w11 bL 3 (inV (lv.set 0 ((b : Nat) : Int))) := by rw [inV, List.map_set]; exact v11
   have K11 := zab K10 k11 (by omega)
   refine KGO ?_
   refine ⟨(1, lv.set 0 ((b : Nat) : Int)), ⟨rfl, rfl, rfl, rfl, v_int (by simp), trivial⟩, ⟨K11, by dsimp only; rw [List.length_set]; exact hlv, v11', hlt, fun j hj => ?_⟩, by dsimp only; omega⟩
   obtain rfl : j = 0 := by dsimp only at hj; omega
   dsimp only
   rw [List.getElem?_set_self (by omega), ← hnew]
  ·have hup1 := hup0 (by omega)
   obtain ⟨u, rfl⟩ : ∃ u : Nat, up = u := ⟨up.toNat, by omega⟩
   have hui : u < i := by omega
   have hst := hgd.step_at i _ (by omega) hgi
   obtain ⟨Q, hQ1, hQ2, hQ3⟩ := hst.par
   have hla0 := hst.last
   have hanc := hst.anc
   have hd8 := ok.d8
   have hd0' := ok.d0
   dsimp only at hQ1 hQ2 hQ3 hla0 hanc hd8 hd0'
   rw [Int.toNat_natCast] at hQ1 hla0 hanc
   have hlu := hla u hui
   generalize lastA ((l.map (·.1)).take i) u = z at *
   refine KGO ?_
   refine Store.cellK (i := i) hv10 (by omega) (by rfl) ⟨rfl, by simp, by simp⟩ fun w11 v11 k11 => ?_
   have v11' : VarK w11 bL 3 (inV (lv.set i ((b : Nat) : Int))) := by rw [inV, List.map_set]; exact v11
   have K11 := zab K10 k11 (by omega)
   have hb7 : bL < b7 := by have := hv.lt; omega
   have v7 := v10.keep k11 (fun e => by have e : b7 = bL := e; omega)
   have a7 : At w11 b7 0 [.int .i64 (u : Nat), .int .i64 dp, .int .i64 (x : Nat), .int .i64 (b : Nat), .int .i64 (t : Nat), .string (str ty.kind), .string (str ty.sub), .slice sl.a sl.n sl.c, .string (str cd)] := v7.at
   have q11 := Kp.refl w11 n_
   have hg2 : g < w2.heap.size := hg
   have hat11 : At w11 g 0 (l.flatMap ptE) := zar hat0 K11
   clear a8 q8 a10 q10 hat
   have hul : u < l.length := by omega
   refine KGO ?_
   obtain ⟨Y, hY⟩ : ∃ Y : PI, Y = l[u] := ⟨_, rfl⟩
   have hYQ : Y.1 = Q := by
    rw [List.getElem?_take_of_lt hui, List.getElem?_map, List.getElem?_eq_getElem hul] at hQ1
    rw [hY]; simpa using hQ1
   rw [← hY]
   subst hYQ
   obtain ⟨a_b8, v_b8, k_w12, z_w12, r_w12⟩ := new5 w11 26 ([.int .i64 0, .int .i64 0, .int .i64 0, .int .i64 0, .int .i64 0, .string ⟨#[]⟩, .string ⟨#[]⟩, .slice none 0 0, .string ⟨#[]⟩])
   generalize w11.alloc (.cells (List.toArray ([.int .i64 0, .int .i64 0, .int .i64 0, .int .i64 0, .int .i64 0, .string ⟨#[]⟩, .string ⟨#[]⟩, .slice none 0 0, .string ⟨#[]⟩])) 26) = w12 at *
   generalize hs_b8 : w11.heap.size = b8 at *
   refine SVK (ptE Y) v_b8 fun w13 v13 k13 => ?_
   have k1113 := zab k_w12 k13 (by omega)
   have K13 := K11.trans0 k1113
   have v7 := v7.keep0 k1113
   have v13' : VarK w13 bL 3 (inV (lv.set i ((b : Nat) : Int))) := v11'.keep0 k1113
   obtain ⟨⟨yu, yd, yf, yb, yt, yty, yc⟩, ysl⟩ := Y
   dsimp only at hQ2 hQ3
   clear a7 q11
   have a7 : At w13 b7 0 [.int .i64 (u : Nat), .int .i64 dp, .int .i64 (x : Nat), .int .i64 (b : Nat), .int .i64 (t : Nat), .string (str ty.kind), .string (str ty.sub), .slice sl.a sl.n sl.c, .string (str cd)] := v7.at
   have aY : At w13 b8 0 [.int .i64 yu, .int .i64 yd, .int .i64 yf, .int .i64 yb, .int .i64 yt, .string (str yty.kind), .string (str yty.sub), .slice ysl.a ysl.n ysl.c, .string (str yc)] := v13.at
   have q13 := Kp.refl w13 n_
   have hcz : w13.cell? ⟨bL, 0 + u, none⟩ = some (.int .i64 z) := v13'.at u _ (by rw [List.getElem?_map, List.getElem?_set_ne (by omega), hlu]; rfl)
   have hlen13 : (inV (lv.set i ((b : Nat) : Int))).length = l.length := by rw [List.length_map, List.length_set, hlv]
   refine KGO ?_
   refine Store.cellK (i := u) v13' (by omega) (by rfl) ⟨rfl, by simp, by simp⟩ fun w14 v14 k14 => ?_
   have v14' : VarK w14 bL 3 (inV ((lv.set i ((b : Nat) : Int)).set u ((t : Nat) + 1 : Int))) := by rw [inV, List.map_set]; exact v14
   have kd13 := (Kp.refl w13 n_).drew
   have K14 := zab (K13.trans0 kd13) k14 (by omega)
   have v7 := (v7.keep0 kd13).keep k14 (fun e => by have e : b7 = bL := e; omega)
   have hat14 : At w14 g 0 (l.flatMap ptE) := zar hat0 K14
   clear a7 aY q13 hcz hat11
   have a7 : At w14 b7 0 [.int .i64 (u : Nat), .int .i64 dp, .int .i64 (x : Nat), .int .i64 (b : Nat), .int .i64 (t : Nat), .string (str ty.kind), .string (str ty.sub), .slice sl.a sl.n sl.c, .string (str cd)] := v7.at
   have q14 := Kp.refl w14 n_
   refine KGO ?_
   rw [show ((i : Nat) : Int) - 1 = ((i - 1 : Nat) : Int) by omega]
   rw [htl] at hanc
   refine Loop.intro (ι := Nat) (fun k => [(0, .string (str s)), (3, .bool true), (4, .slice (some ⟨g, 0, none⟩) l.length cv), (5, .slice (some ⟨bL, 0, none⟩) l.length l.length), (6, .int .i64 (i : Nat)), (7, .pointer (some ⟨b7, 0, none⟩)), (9, .int .i64 (k : Nat))])
    (fun k wq => Kp w14 wq n_ ∧ k < i ∧ Anc ((l.map (·.1)).take i) u k) (fun k => k) (i - 1) ⟨rfl, rfl, rfl, rfl, rfl, rfl, rfl, trivial⟩ ⟨Kp.refl _ _, by omega, hanc⟩ ?_
   clear q14
   rintro k g3 wq ⟨hKq, hki, hak⟩
   have huT : ∀ (j : Nat) (q : Prt), ((l.map (·.1)).take i)[j]? = some q → q.up < (j : Int) := fun j q hq => by
    have hj := (List.getElem?_eq_some_iff.1 hq).1
    rw [htl] at hj
    rw [List.getElem?_take_of_lt hj] at hq
    exact hgd.up j q hq
   have hle := zlP huT hak
   have aq := zar a7 hKq
   have hatq := zar hat14 hKq
   have qq := Kp.refl wq n_
   refine GW ?_
   by_cases hku : k = u
   ·subst hku
    refine KGO ?_
    refine ⟨(i + 1, (lv.set i ((b : Nat) : Int)).set k ((t : Nat) + 1 : Int)), ⟨rfl, rfl, rfl, rfl, v_int (by simp), trivial⟩, ⟨K14.trans0 hKq, by dsimp only; rw [List.length_set, List.length_set]; exact hlv, v14'.keep0 hKq, hlt, fun j hj => ?_⟩, by dsimp only; omega⟩
    dsimp only at hj ⊢
    by_cases hju : j = k
    ·subst hju
     rw [List.getElem?_set_self (by rw [List.length_set]; omega), hTK, zjr (by rw [htl]; exact hki) rfl]
    ·rw [List.getElem?_set_ne (fun e => hju e.symm)]
     by_cases hji : j = i
     ·subst hji
      rw [List.getElem?_set_self (by omega), hnew]
     ·rw [List.getElem?_set_ne (fun e => hji e.symm), hla j (by omega), hTK, zgw (by rw [htl]; omega) (fun e => hju (by have e : ((k : Nat) : Int) = (j : Nat) := e; omega))]
   ·have hkl : k < l.length := by omega
    obtain ⟨m, hm1, hm2⟩ : ∃ m : Nat, l[k].1.up = (m : Int) ∧ m < k ∧ Anc ((l.map (·.1)).take i) u m := by
     cases hak with
     | here => exact absurd rfl hku
     | up h1 h2 h3 =>
      rename_i q
      have h4 := huT _ _ h1
      rw [List.getElem?_take_of_lt hki, List.getElem?_map, List.getElem?_eq_getElem hkl] at h1
      have h5 : l[k].1 = q := by simpa using h1
      exact ⟨q.up.toNat, by rw [h5]; omega, by omega, h3⟩
    refine KGO ?_
    exact ⟨m, ⟨rfl, rfl, rfl, rfl, rfl, rfl, congrArg (Value.int .i64) hm1, trivial⟩, ⟨hKq, by omega, hm2.2⟩, by dsimp only; omega⟩
 ·refine KGO ?_
  exact ⟨rfl, (k1.trans0 k2).trans0 hK⟩
end
end Go.Proofs.YtmjeacpoobbjjaaGreatDoor
namespace Go
theorem zeD {H : Type} {enc : TypeId × Value → H} {a : Assume} {C : Checked} {os : Os} {f : FuncId} {fn : Func} {s : ChangeSpec} {conds : List PathCond} {apart fresh handsOn again : Bool} {X : World → Array Value → Prop}
  (hX : ∀ (w w' : World) (args : Array Value), w.heap = w'.heap → X w args → X w' args)
  (own : ownKnob C.prog.godebug = none) (started : os.Started) (noInit : C.prog.inits.idxOf? f = none) (hfn : C.prog.funcs[f]? = some fn)
  (witness : ∃ (w : World) (tape : Tape) (i : Input), w.os = os ∧ (w.forCall tape i).Shaped C.prog ∧ i.vars = [] ∧ Input.okWide C.prog (w.forCall tape i) .any w.heap.size f i ∧
   ((s.pre enc C.prog fn conds apart (w.forCall tape i).memory i.args ∧ X (w.forCall tape i).memory i.args) ∧ sizedMet enc C.prog fn (OpenSpec.ofChange s) apart (w.forCall tape i).memory i.args) ∧ a.holds C.prog (lone (Frame.enter C.prog f i.args .normal) [] (w.forCall tape i)))
  (contract : ∀ (W : World) (base : Nat) (args : Array Value) (ds gs : List (DataW H)) (before : List MemPlace),
   (∀ (j : Nat) t v, fn.params[j]? = some t → args[j]? = some v → Value.okWide C.prog W .any base t v) →
   DataW.Whole enc C.prog fn.params.toList s.vars apart W args.toList ds gs before →
   (DataW.weightsEach C.prog (fn.params.toList ++ s.plain.varTypes C.prog) (ds ++ gs)).all (· ≤ reachBytes) = true → X W args → W.ShapedOpen C.prog →
   Calls C.prog f args W fun e W' => ∃ v, e = .returned v ∧ s.post enc C.prog fn apart fresh handsOn again W args v W') :
  ReturnsInHanded a C os f .any (fun w args => (s.pre enc C.prog fn conds apart w args ∧ X w args) ∧ sizedMet enc C.prog fn (OpenSpec.ofChange s) apart w args) (s.post enc C.prog fn apart fresh handsOn again) :=
 returnsInHanded_of_calls own started noInit witness fun w tape i _ hsh _ hok hpre _ => by
  obtain ⟨_, _, _, g, hg, _, _, _, _, hval⟩ := hok
  obtain rfl : g = fn := Option.some.inj (hg.symm.trans hfn)
  obtain ⟨⟨⟨ds, gs, before, hw, _⟩, hx⟩, hz⟩ := hpre
  exact (contract (w.forCall tape i) w.heap.size i.args ds gs before hval (DataW.Whole.of_heap (by rfl) hw) (hz.weights hw) (hX _ _ _ (by rfl) hx) hsh).mono fun e W' ⟨v, he, hp⟩ => by
   subst he
   exact ChangeSpec.post_blind hp
end Go
namespace Go.Proofs.YtmjeacpoobbjjaaGreatDoor
open Go.Shelf Go.RowKit Go.Pw Go.Vc Go.Cs Go.Lib
theorem u8x2 : U8Extra Tryz.prog ren197 := ⟨by kernel_rfl, by kernel_rfl, by kernel_rfl, by kernel_rfl, by kernel_rfl, by kernel_rfl, by kernel_rfl⟩
theorem zlg : (Rows.laid_unicode_utf8_acceptRanges : DataW Unit) = acceptData := by kernel_rfl
theorem zlr : Rows.laid_unicode_utf8_first = firstData := Pinned.utf8First_eq
theorem zkt {W : World} (h3 : VarReads Tryz.prog W "unicode/utf8.first" Rows.laid_unicode_utf8_first) (h4 : VarReads Tryz.prog W "unicode/utf8.acceptRanges" Rows.laid_unicode_utf8_acceptRanges) : Tabs W := by
 rw [zlg] at h4
 rw [zlr] at h3
 exact utf8Tabs_of_reads { lays197 with } u8x2 h3 h4
theorem zlw {W : World} (h : VarReads Tryz.prog W "strconv.ErrRange" Rows.laid_strconv_ErrRange) : ErrL W := by
 obtain ⟨g, t, cs, fuel, p, hg, hty, hvar, hd⟩ := h
 obtain rfl := Option.some.inj ((by kernel_rfl : Tryz.prog.globalNamed "strconv.ErrRange" = some 4).symm.trans hg)
 obtain rfl := Option.some.inj ((by kernel_rfl : (Tryz.prog.globals[4]?).map (·.type) = some 124).symm.trans hty)
 have hc := World.var?_cell hg hvar 0
 rcases fuel with _ | fuel
 ·simp [DataW.trod, Rows.laid_strconv_ErrRange] at hd
 ·unfold DataW.trod at hd
  rw [Tryz.underlying124] at hd
  rcases hl : cs.toList with _ | ⟨v, r⟩
  ·rw [hl] at hd; simp [Rows.laid_strconv_ErrRange] at hd
  ·rw [hl] at hd
   rw [← Array.getElem?_toList, hl] at hc
   rcases r with _ | ⟨v2, r⟩
   ·cases v <;> simp [Rows.laid_strconv_ErrRange] at hd
    exact ⟨_, _, hc⟩
   ·simp [Rows.laid_strconv_ErrRange] at hd
theorem szL {t : List UInt8} (h : (str t).size ≤ reachBytes) : t.length ≤ 140737488355328 := by
 have e : (str t).size = t.length := by simp [ByteArray.size, str]
 rw [e] at h
 have h2 : t.length ≤ 140737488351232 := by simpa [reachBytes] using h
 omega
theorem zkN {W : World} (h : W.ShapedOpen Tryz.prog) : MaxL W :=
 cell_of_shapedOpen_int (zero := #[.int .i64 0]) (t := 3) h (by decide +kernel) (by kernel_rfl) (by rfl) (by kernel_rfl) (by kernel_rfl) Tryz.underlying3
end Go.Proofs.YtmjeacpoobbjjaaGreatDoor
