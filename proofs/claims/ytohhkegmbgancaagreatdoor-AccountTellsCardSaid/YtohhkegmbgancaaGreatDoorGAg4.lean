/- Helper text of this claim: lemmas and contracts that the proved statement rests on; no conditions of its own. -/
import Derived.Lib.Split
import Derived.Lib.SplitLaws
import Derived.Lib.IndexLaws
import Derived.Lib.IndexBytes
import Derived.Shelf.Strings.SplitCore
import Derived.Shelf.Strings.Search3
import Derived.Shelf.Strings.Count
import Derived.Test.YtohhkegmbgancaaGreatDoorGAg5
namespace Go.Proofs.YtohhkegmbgancaaGreatDoor
set_option maxHeartbeats 8000000
open Go.RowKit Go.Pw Go.Vc Go.Cs Go.Lib
set_option linter.unusedVariables false
set_option maxRecDepth 100000
theorem zpM {w : World} {v : Value} {B : Nat} (l : List Mr) (i : Nat) (ho : OwnMl w B v l) (hi : i < l.length) (hl : l.length ≤ 1000000) :
  Calls Tryz.prog 79 #[v, .int .i64 (i : Nat), .int .i64 ((i + 1 : Nat) : Int)] w fun e w' => ∃ v', e = .returned v' ∧ OwnMl w' B v' (l.take i ++ l.drop (i + 1)) ∧ Kp w w' (own_ v) ∧ v'.ownBlock = v.ownBlock := by
 have hlenK := zaC mrC 38 lenMl
 have htkK := zaQ mrC 38 lenMl
 have hdrK := zaZ mrC 38 lenMl
 rcases own_blockK ho with ⟨rfl, h0⟩ | ⟨g, cap, cells, rfl, hBg, hv, hnc, hcm, hcl, htk⟩
 ·omega
 refine zaa (args := [.slice (some ⟨g, 0, none⟩) l.length cap, .int .i64 (i : Nat), .int .i64 ((i + 1 : Nat) : Int)]) Tryz.func79 rfl NL ?_; refine GW ?_
 refine RunV.of (zen (i := i) (j := i + 1) (m := l.length) Tryz.underlying32 infoMl (by omega) (by omega) (by omega) rfl rfl rfl) ?_
 have hcells : cells = (l.take i).flatMap mrC ++ (cells.drop (i * 38)) := by
  conv => lhs; rw [← List.take_append_drop (i * 38) cells]
  rw [show cells.take (i * 38) = (cells.take (l.length * 38)).take (i * 38) by rw [List.take_take, Nat.min_eq_left (by omega)], htk, htkK]
 have hA : ((l.take i).flatMap mrC).length = i * 38 := by rw [hlenK, List.length_take]; omega
 have hD : ((l.drop (i + 1)).flatMap mrC).length = (l.length - (i + 1)) * 38 := by rw [hlenK, List.length_drop]
 have hres : (l.take i ++ l.drop (i + 1)).flatMap mrC = (l.take i).flatMap mrC ++ (l.drop (i + 1)).flatMap mrC := List.flatMap_append
 have hresl : (l.take i ++ l.drop (i + 1)).length = l.length - 1 := by rw [List.length_append, List.length_take, List.length_drop]; omega
 have hsrcD : ∀ j u, ((l.drop (i + 1)).flatMap mrC)[j]? = some u → cells[(i + 1) * 38 + j]? = some u := fun j u hj => by
  rw [← hdrK, List.getElem?_drop, ← htk, List.getElem?_take] at hj
  split at hj
  ·exact hj
  ·cases hj
 generalize hAe : (l.take i).flatMap mrC = A at *
 generalize hDe : (l.drop (i + 1)).flatMap mrC = D at *
 have hD1 : ∀ u ∈ D, u.oneCell' = true := by rw [← hDe]; exact oneMl _
 refine KGO ?_
 rw [if_neg (by omega : ¬ 0 = cap)]
 have hvd : VarK w.drew g 42 cells := hv
 by_cases hc : i + 1 = cap
 ·rw [if_pos hc]
  have hnews : ∀ j u, D[j]? = some u → w.drew.cell? ((⟨g, 0, none⟩ : Addr).add j) = some u := hvd.cells _ _ fun j u hj => by
   have hlt := (List.getElem?_eq_some_iff.1 hj).1
   rw [hD] at hlt
   omega
  refine RunN.roomK (s := 38) (n := i) (c := cap) (m := l.length - (i + 1)) Tryz.underlying32 infoMl hvd (a := ⟨g, 0, none⟩) (news := D) hD hnews hD1 (by omega) (by rw [hcl]; omega) fun w2 v2 k2 => ?_
  rw [show i + (l.length - (i + 1)) = l.length - 1 by omega] at v2 ⊢
  have htA : cells.take (i * 38) = A := by rw [hcells, ← hA, List.take_left]
  rw [htA] at v2
  have hRl : (cells.drop ((l.length - 1) * 38)).length = (cap - (l.length - 1)) * 38 := by rw [List.length_drop, hcl]; omega
  generalize cells.drop ((l.length - 1) * 38) = R at *
  refine KGO ?_
  rw [if_neg (by omega : ¬ l.length - 1 = cap)]
  refine RunN.clearK (s := 38) (g := g) (o := 0 + (l.length - 1) * 38) (n := l.length - (l.length - 1)) Tryz.underlying32 infoMl rfl (fun u hu => by exact List.all_eq_true.1 (show (((.agg #[.int .i64 0, .int .u8 0, .int .u8 0, .int .u8 0, .int .u8 0, .int .u8 0, .int .u8 0, .int .u8 0, .int .u8 0, .int .u8 0, .int .u8 0, .int .u8 0, .int .u8 0, .int .u8 0, .int .u8 0, .int .u8 0, .int .u8 0, .int .u8 0, .int .u8 0, .int .u8 0, .int .u8 0, .int .u8 0, .int .u8 0, .int .u8 0, .int .u8 0, .int .u8 0, .int .u8 0, .int .u8 0, .int .u8 0, .int .u8 0, .int .u8 0, .int .u8 0, .int .u8 0, .slice none 0 0, .slice none 0 0, .int .i64 0, .int .i64 0, .int .i64 0] : Value)).cells.toList).all (fun u => u.oneCell') = true by rfl) u (by simpa using hu)) v2 (by rw [List.length_append, List.length_append, hA, hD, hRl]; omega) fun w3 zs hzl v3 k3 => ?_
  refine KGO ?_
  refine ⟨_, rfl, ?_, ((((Kp.refl w (one_ g)).drew).trans' k2).trans' k3).mono fun q _ hq => by have hq : q = g := hq; rw [hq]; rfl, rfl⟩
  unfold OwnMl
  rw [hresl, hres]
  have hrl : (A ++ D).length = (l.length - 1) * 38 := by rw [List.length_append, hA, hD]; omega
  have ho4 : 0 + (l.length - 1) * 38 = (A ++ D).length := by rw [hrl]; omega
  rw [ho4] at v3
  rw [List.take_left] at v3
  refine zbi hBg v3 (by omega) hcm (by rw [List.length_append, List.length_append, hrl, List.length_drop, List.length_append, hrl, hRl, hzl]; omega) ?_ hrl
  rw [← hrl, List.append_assoc, List.take_left]
 ·rw [if_neg hc]
  have hnews : ∀ j u, D[j]? = some u → w.drew.cell? ((⟨g, 0 + (i + 1) * 38, none⟩ : Addr).add j) = some u := hvd.cells _ _ fun j u hj => by
   have hlt := (List.getElem?_eq_some_iff.1 hj).1
   rw [hD] at hlt
   rw [Nat.zero_add]; exact hsrcD j u hj
  refine RunN.roomK (s := 38) (n := i) (c := cap) (m := l.length - (i + 1)) Tryz.underlying32 infoMl hvd (a := ⟨g, 0 + (i + 1) * 38, none⟩) (news := D) hD hnews hD1 (by omega) (by rw [hcl]; omega) fun w2 v2 k2 => ?_
  rw [show i + (l.length - (i + 1)) = l.length - 1 by omega] at v2 ⊢
  have htA : cells.take (i * 38) = A := by rw [hcells, ← hA, List.take_left]
  rw [htA] at v2
  have hRl : (cells.drop ((l.length - 1) * 38)).length = (cap - (l.length - 1)) * 38 := by rw [List.length_drop, hcl]; omega
  generalize cells.drop ((l.length - 1) * 38) = R at *
  refine KGO ?_
  rw [if_neg (by omega : ¬ l.length - 1 = cap)]
  refine RunN.clearK (s := 38) (g := g) (o := 0 + (l.length - 1) * 38) (n := l.length - (l.length - 1)) Tryz.underlying32 infoMl rfl (fun u hu => by exact List.all_eq_true.1 (show (((.agg #[.int .i64 0, .int .u8 0, .int .u8 0, .int .u8 0, .int .u8 0, .int .u8 0, .int .u8 0, .int .u8 0, .int .u8 0, .int .u8 0, .int .u8 0, .int .u8 0, .int .u8 0, .int .u8 0, .int .u8 0, .int .u8 0, .int .u8 0, .int .u8 0, .int .u8 0, .int .u8 0, .int .u8 0, .int .u8 0, .int .u8 0, .int .u8 0, .int .u8 0, .int .u8 0, .int .u8 0, .int .u8 0, .int .u8 0, .int .u8 0, .int .u8 0, .int .u8 0, .int .u8 0, .slice none 0 0, .slice none 0 0, .int .i64 0, .int .i64 0, .int .i64 0] : Value)).cells.toList).all (fun u => u.oneCell') = true by rfl) u (by simpa using hu)) v2 (by rw [List.length_append, List.length_append, hA, hD, hRl]; omega) fun w3 zs hzl v3 k3 => ?_
  refine KGO ?_
  refine ⟨_, rfl, ?_, ((((Kp.refl w (one_ g)).drew).trans' k2).trans' k3).mono fun q _ hq => by have hq : q = g := hq; rw [hq]; rfl, rfl⟩
  unfold OwnMl
  rw [hresl, hres]
  have hrl : (A ++ D).length = (l.length - 1) * 38 := by rw [List.length_append, hA, hD]; omega
  have ho4 : 0 + (l.length - 1) * 38 = (A ++ D).length := by rw [hrl]; omega
  rw [ho4] at v3
  rw [List.take_left] at v3
  refine zbi hBg v3 (by omega) hcm (by rw [List.length_append, List.length_append, hrl, List.length_drop, List.length_append, hrl, hRl, hzl]; omega) ?_ hrl
  rw [← hrl, List.append_assoc, List.take_left]
theorem zpg {w : World} {v : Value} {B : Nat} (l : List Sc) (i : Nat) (ho : OwnSrc w B v l) (hi : i < l.length) (hl : l.length ≤ 1000000) :
  Calls Tryz.prog 88 #[v, .int .i64 (i : Nat), .int .i64 ((i + 1 : Nat) : Int)] w fun e w' => ∃ v', e = .returned v' ∧ OwnSrc w' B v' (l.take i ++ l.drop (i + 1)) ∧ Kp w w' (own_ v) ∧ v'.ownBlock = v.ownBlock := by
 have hlenK := zaC srcC 2 lenSrc
 have htkK := zaQ srcC 2 lenSrc
 have hdrK := zaZ srcC 2 lenSrc
 rcases own_blockK ho with ⟨rfl, h0⟩ | ⟨g, cap, cells, rfl, hBg, hv, hnc, hcm, hcl, htk⟩
 ·omega
 refine zaa (args := [.slice (some ⟨g, 0, none⟩) l.length cap, .int .i64 (i : Nat), .int .i64 ((i + 1 : Nat) : Int)]) Tryz.func88 rfl NL ?_; refine GW ?_
 refine RunV.of (zen (i := i) (j := i + 1) (m := l.length) Tryz.underlying33 infoSrc (by omega) (by omega) (by omega) rfl rfl rfl) ?_
 have hcells : cells = (l.take i).flatMap srcC ++ (cells.drop (i * 2)) := by
  conv => lhs; rw [← List.take_append_drop (i * 2) cells]
  rw [show cells.take (i * 2) = (cells.take (l.length * 2)).take (i * 2) by rw [List.take_take, Nat.min_eq_left (by omega)], htk, htkK]
 have hA : ((l.take i).flatMap srcC).length = i * 2 := by rw [hlenK, List.length_take]; omega
 have hD : ((l.drop (i + 1)).flatMap srcC).length = (l.length - (i + 1)) * 2 := by rw [hlenK, List.length_drop]
 have hres : (l.take i ++ l.drop (i + 1)).flatMap srcC = (l.take i).flatMap srcC ++ (l.drop (i + 1)).flatMap srcC := List.flatMap_append
 have hresl : (l.take i ++ l.drop (i + 1)).length = l.length - 1 := by rw [List.length_append, List.length_take, List.length_drop]; omega
 have hsrcD : ∀ j u, ((l.drop (i + 1)).flatMap srcC)[j]? = some u → cells[(i + 1) * 2 + j]? = some u := fun j u hj => by
  rw [← hdrK, List.getElem?_drop, ← htk, List.getElem?_take] at hj
  split at hj
  ·exact hj
  ·cases hj
 generalize hAe : (l.take i).flatMap srcC = A at *
 generalize hDe : (l.drop (i + 1)).flatMap srcC = D at *
 have hD1 : ∀ u ∈ D, u.oneCell' = true := by rw [← hDe]; exact oneSrc _
 refine KGO ?_
 rw [if_neg (by omega : ¬ 0 = cap)]
 have hvd : VarK w.drew g 76 cells := hv
 by_cases hc : i + 1 = cap
 ·rw [if_pos hc]
  have hnews : ∀ j u, D[j]? = some u → w.drew.cell? ((⟨g, 0, none⟩ : Addr).add j) = some u := hvd.cells _ _ fun j u hj => by
   have hlt := (List.getElem?_eq_some_iff.1 hj).1
   rw [hD] at hlt
   omega
  refine RunN.roomK (s := 2) (n := i) (c := cap) (m := l.length - (i + 1)) Tryz.underlying33 infoSrc hvd (a := ⟨g, 0, none⟩) (news := D) hD hnews hD1 (by omega) (by rw [hcl]; omega) fun w2 v2 k2 => ?_
  rw [show i + (l.length - (i + 1)) = l.length - 1 by omega] at v2 ⊢
  have htA : cells.take (i * 2) = A := by rw [hcells, ← hA, List.take_left]
  rw [htA] at v2
  have hRl : (cells.drop ((l.length - 1) * 2)).length = (cap - (l.length - 1)) * 2 := by rw [List.length_drop, hcl]; omega
  generalize cells.drop ((l.length - 1) * 2) = R at *
  refine KGO ?_
  rw [if_neg (by omega : ¬ l.length - 1 = cap)]
  refine RunN.clearK (s := 2) (g := g) (o := 0 + (l.length - 1) * 2) (n := l.length - (l.length - 1)) Tryz.underlying33 infoSrc rfl (fun u hu => by exact List.all_eq_true.1 (show (((.agg #[.string ⟨#[]⟩, .string ⟨#[]⟩] : Value)).cells.toList).all (fun u => u.oneCell') = true by rfl) u (by simpa using hu)) v2 (by rw [List.length_append, List.length_append, hA, hD, hRl]; omega) fun w3 zs hzl v3 k3 => ?_
  refine KGO ?_
  refine ⟨_, rfl, ?_, ((((Kp.refl w (one_ g)).drew).trans' k2).trans' k3).mono fun q _ hq => by have hq : q = g := hq; rw [hq]; rfl, rfl⟩
  unfold OwnSrc
  rw [hresl, hres]
  have hrl : (A ++ D).length = (l.length - 1) * 2 := by rw [List.length_append, hA, hD]; omega
  have ho4 : 0 + (l.length - 1) * 2 = (A ++ D).length := by rw [hrl]; omega
  rw [ho4] at v3
  rw [List.take_left] at v3
  refine zbi hBg v3 (by omega) hcm (by rw [List.length_append, List.length_append, hrl, List.length_drop, List.length_append, hrl, hRl, hzl]; omega) ?_ hrl
  rw [← hrl, List.append_assoc, List.take_left]
 ·rw [if_neg hc]
  have hnews : ∀ j u, D[j]? = some u → w.drew.cell? ((⟨g, 0 + (i + 1) * 2, none⟩ : Addr).add j) = some u := hvd.cells _ _ fun j u hj => by
   have hlt := (List.getElem?_eq_some_iff.1 hj).1
   rw [hD] at hlt
   rw [Nat.zero_add]; exact hsrcD j u hj
  refine RunN.roomK (s := 2) (n := i) (c := cap) (m := l.length - (i + 1)) Tryz.underlying33 infoSrc hvd (a := ⟨g, 0 + (i + 1) * 2, none⟩) (news := D) hD hnews hD1 (by omega) (by rw [hcl]; omega) fun w2 v2 k2 => ?_
  rw [show i + (l.length - (i + 1)) = l.length - 1 by omega] at v2 ⊢
  have htA : cells.take (i * 2) = A := by rw [hcells, ← hA, List.take_left]
  rw [htA] at v2
  have hRl : (cells.drop ((l.length - 1) * 2)).length = (cap - (l.length - 1)) * 2 := by rw [List.length_drop, hcl]; omega
  generalize cells.drop ((l.length - 1) * 2) = R at *
  refine KGO ?_
  rw [if_neg (by omega : ¬ l.length - 1 = cap)]
  refine RunN.clearK (s := 2) (g := g) (o := 0 + (l.length - 1) * 2) (n := l.length - (l.length - 1)) Tryz.underlying33 infoSrc rfl (fun u hu => by exact List.all_eq_true.1 (show (((.agg #[.string ⟨#[]⟩, .string ⟨#[]⟩] : Value)).cells.toList).all (fun u => u.oneCell') = true by rfl) u (by simpa using hu)) v2 (by rw [List.length_append, List.length_append, hA, hD, hRl]; omega) fun w3 zs hzl v3 k3 => ?_
  refine KGO ?_
  refine ⟨_, rfl, ?_, ((((Kp.refl w (one_ g)).drew).trans' k2).trans' k3).mono fun q _ hq => by have hq : q = g := hq; rw [hq]; rfl, rfl⟩
  unfold OwnSrc
  rw [hresl, hres]
  have hrl : (A ++ D).length = (l.length - 1) * 2 := by rw [List.length_append, hA, hD]; omega
  have ho4 : 0 + (l.length - 1) * 2 = (A ++ D).length := by rw [hrl]; omega
  rw [ho4] at v3
  rw [List.take_left] at v3
  refine zbi hBg v3 (by omega) hcm (by rw [List.length_append, List.length_append, hrl, List.length_drop, List.length_append, hrl, hRl, hzl]; omega) ?_ hrl
  rw [← hrl, List.append_assoc, List.take_left]
theorem del_I {w : World} {v : Value} {B : Nat} (l : List Int) (i : Nat) (ho : OwnI w B v l) (hi : i < l.length) (hl : l.length ≤ 1000000) :
  Calls Tryz.prog 85 #[v, .int .i64 (i : Nat), .int .i64 ((i + 1 : Nat) : Int)] w fun e w' => ∃ v', e = .returned v' ∧ OwnI w' B v' (l.take i ++ l.drop (i + 1)) ∧ Kp w w' (own_ v) ∧ v'.ownBlock = v.ownBlock := by
 have hlenK := zaC inC 1 lenI
 have htkK := zaQ inC 1 lenI
 have hdrK := zaZ inC 1 lenI
 rcases own_blockK ho with ⟨rfl, h0⟩ | ⟨g, cap, cells, rfl, hBg, hv, hnc, hcm, hcl, htk⟩
 ·omega
 refine zaa (args := [.slice (some ⟨g, 0, none⟩) l.length cap, .int .i64 (i : Nat), .int .i64 ((i + 1 : Nat) : Int)]) Tryz.func85 rfl NL ?_; refine GW ?_
 refine RunV.of (zen (i := i) (j := i + 1) (m := l.length) Tryz.underlying25 infoI (by omega) (by omega) (by omega) rfl rfl rfl) ?_
 have hcells : cells = (l.take i).flatMap inC ++ (cells.drop (i * 1)) := by
  conv => lhs; rw [← List.take_append_drop (i * 1) cells]
  rw [show cells.take (i * 1) = (cells.take (l.length * 1)).take (i * 1) by rw [List.take_take, Nat.min_eq_left (by omega)], htk, htkK]
 have hA : ((l.take i).flatMap inC).length = i * 1 := by rw [hlenK, List.length_take]; omega
 have hD : ((l.drop (i + 1)).flatMap inC).length = (l.length - (i + 1)) * 1 := by rw [hlenK, List.length_drop]
 have hres : (l.take i ++ l.drop (i + 1)).flatMap inC = (l.take i).flatMap inC ++ (l.drop (i + 1)).flatMap inC := List.flatMap_append
 have hresl : (l.take i ++ l.drop (i + 1)).length = l.length - 1 := by rw [List.length_append, List.length_take, List.length_drop]; omega
 have hsrcD : ∀ j u, ((l.drop (i + 1)).flatMap inC)[j]? = some u → cells[(i + 1) * 1 + j]? = some u := fun j u hj => by
  rw [← hdrK, List.getElem?_drop, ← htk, List.getElem?_take] at hj
  split at hj
  ·exact hj
  ·cases hj
 generalize hAe : (l.take i).flatMap inC = A at *
 generalize hDe : (l.drop (i + 1)).flatMap inC = D at *
 have hD1 : ∀ u ∈ D, u.oneCell' = true := by rw [← hDe]; exact oneI _
 refine KGO ?_
 rw [if_neg (by omega : ¬ 0 = cap)]
 have hvd : VarK w.drew g 3 cells := hv
 by_cases hc : i + 1 = cap
 ·rw [if_pos hc]
  have hnews : ∀ j u, D[j]? = some u → w.drew.cell? ((⟨g, 0, none⟩ : Addr).add j) = some u := hvd.cells _ _ fun j u hj => by
   have hlt := (List.getElem?_eq_some_iff.1 hj).1
   rw [hD] at hlt
   omega
  refine RunN.roomK (s := 1) (n := i) (c := cap) (m := l.length - (i + 1)) Tryz.underlying25 infoI hvd (a := ⟨g, 0, none⟩) (news := D) hD hnews hD1 (by omega) (by rw [hcl]; omega) fun w2 v2 k2 => ?_
  rw [show i + (l.length - (i + 1)) = l.length - 1 by omega] at v2 ⊢
  have htA : cells.take (i * 1) = A := by rw [hcells, ← hA, List.take_left]
  rw [htA] at v2
  have hRl : (cells.drop ((l.length - 1) * 1)).length = (cap - (l.length - 1)) * 1 := by rw [List.length_drop, hcl]; omega
  generalize cells.drop ((l.length - 1) * 1) = R at *
  refine KGO ?_
  rw [if_neg (by omega : ¬ l.length - 1 = cap)]
  refine RunN.clearK (s := 1) (g := g) (o := 0 + (l.length - 1) * 1) (n := l.length - (l.length - 1)) Tryz.underlying25 infoI rfl (fun u hu => by exact List.all_eq_true.1 (show (((.int .i64 0 : Value)).cells.toList).all (fun u => u.oneCell') = true by rfl) u (by simpa using hu)) v2 (by rw [List.length_append, List.length_append, hA, hD, hRl]; omega) fun w3 zs hzl v3 k3 => ?_
  refine KGO ?_
  refine ⟨_, rfl, ?_, ((((Kp.refl w (one_ g)).drew).trans' k2).trans' k3).mono fun q _ hq => by have hq : q = g := hq; rw [hq]; rfl, rfl⟩
  unfold OwnI
  rw [hresl, hres]
  have hrl : (A ++ D).length = (l.length - 1) * 1 := by rw [List.length_append, hA, hD]; omega
  have ho4 : 0 + (l.length - 1) * 1 = (A ++ D).length := by rw [hrl]; omega
  rw [ho4] at v3
  rw [List.take_left] at v3
  refine zbi hBg v3 (by omega) hcm (by rw [List.length_append, List.length_append, hrl, List.length_drop, List.length_append, hrl, hRl, hzl]; omega) ?_ hrl
  rw [← hrl, List.append_assoc, List.take_left]
 ·rw [if_neg hc]
  have hnews : ∀ j u, D[j]? = some u → w.drew.cell? ((⟨g, 0 + (i + 1) * 1, none⟩ : Addr).add j) = some u := hvd.cells _ _ fun j u hj => by
   have hlt := (List.getElem?_eq_some_iff.1 hj).1
   rw [hD] at hlt
   rw [Nat.zero_add]; exact hsrcD j u hj
  refine RunN.roomK (s := 1) (n := i) (c := cap) (m := l.length - (i + 1)) Tryz.underlying25 infoI hvd (a := ⟨g, 0 + (i + 1) * 1, none⟩) (news := D) hD hnews hD1 (by omega) (by rw [hcl]; omega) fun w2 v2 k2 => ?_
  rw [show i + (l.length - (i + 1)) = l.length - 1 by omega] at v2 ⊢
  have htA : cells.take (i * 1) = A := by rw [hcells, ← hA, List.take_left]
  rw [htA] at v2
  have hRl : (cells.drop ((l.length - 1) * 1)).length = (cap - (l.length - 1)) * 1 := by rw [List.length_drop, hcl]; omega
  generalize cells.drop ((l.length - 1) * 1) = R at *
  refine KGO ?_
  rw [if_neg (by omega : ¬ l.length - 1 = cap)]
  refine RunN.clearK (s := 1) (g := g) (o := 0 + (l.length - 1) * 1) (n := l.length - (l.length - 1)) Tryz.underlying25 infoI rfl (fun u hu => by exact List.all_eq_true.1 (show (((.int .i64 0 : Value)).cells.toList).all (fun u => u.oneCell') = true by rfl) u (by simpa using hu)) v2 (by rw [List.length_append, List.length_append, hA, hD, hRl]; omega) fun w3 zs hzl v3 k3 => ?_
  refine KGO ?_
  refine ⟨_, rfl, ?_, ((((Kp.refl w (one_ g)).drew).trans' k2).trans' k3).mono fun q _ hq => by have hq : q = g := hq; rw [hq]; rfl, rfl⟩
  unfold OwnI
  rw [hresl, hres]
  have hrl : (A ++ D).length = (l.length - 1) * 1 := by rw [List.length_append, hA, hD]; omega
  have ho4 : 0 + (l.length - 1) * 1 = (A ++ D).length := by rw [hrl]; omega
  rw [ho4] at v3
  rw [List.take_left] at v3
  refine zbi hBg v3 (by omega) hcm (by rw [List.length_append, List.length_append, hrl, List.length_drop, List.length_append, hrl, hRl, hzl]; omega) ?_ hrl
  rw [← hrl, List.append_assoc, List.take_left]
end Go.Proofs.YtohhkegmbgancaaGreatDoor
namespace Go.Proofs.YtohhkegmbgancaaGreatDoor
set_option maxHeartbeats 8000000
open Go.Shelf Go.RowKit Go.Pw Go.Vc Go.Cs Go.Lib
set_option linter.unusedVariables false
set_option maxRecDepth 100000
theorem nd4 {o1 o2 o3 o4 : Option Nat} {l : List Nat} (nd : ((o1.toList ++ o2.toList ++ o3.toList ++ o4.toList) ++ l).Nodup) :
  (∀ k, o1 = some k → o2 ≠ some k ∧ o3 ≠ some k ∧ o4 ≠ some k ∧ k ∉ l) ∧ (∀ k, o2 = some k → o3 ≠ some k ∧ o4 ≠ some k ∧ k ∉ l) ∧ (∀ k, o3 = some k → o4 ≠ some k ∧ k ∉ l) ∧ (∀ k, o4 = some k → k ∉ l) := by
 have e : ∀ (o : Option Nat) k, o = some k → k ∈ o.toList := fun o k h => by rw [h]; simp
 rw [List.nodup_append] at nd
 obtain ⟨n1, _, n2⟩ := nd
 rw [List.nodup_append] at n1
 obtain ⟨n3, _, n4⟩ := n1
 rw [List.nodup_append] at n3
 obtain ⟨n5, _, n6⟩ := n3
 rw [List.nodup_append] at n5
 obtain ⟨_, _, n7⟩ := n5
 refine ⟨fun k h => ⟨fun q => ?_, fun q => ?_, fun q => ?_, fun q => ?_⟩, fun k h => ⟨fun q => ?_, fun q => ?_, fun q => ?_⟩, fun k h => ⟨fun q => ?_, fun q => ?_⟩, fun k h q => ?_⟩
 ·exact n7 k (e _ _ h) k (e _ _ q) rfl
 ·exact n6 k (List.mem_append_left _ (e _ _ h)) k (e _ _ q) rfl
 ·exact n4 k (List.mem_append_left _ (List.mem_append_left _ (e _ _ h))) k (e _ _ q) rfl
 ·exact n2 k (List.mem_append_left _ (List.mem_append_left _ (List.mem_append_left _ (e _ _ h)))) k q rfl
 ·exact n6 k (List.mem_append_right _ (e _ _ h)) k (e _ _ q) rfl
 ·exact n4 k (List.mem_append_left _ (List.mem_append_right _ (e _ _ h))) k (e _ _ q) rfl
 ·exact n2 k (List.mem_append_left _ (List.mem_append_left _ (List.mem_append_right _ (e _ _ h)))) k q rfl
 ·exact n4 k (List.mem_append_right _ (e _ _ h)) k (e _ _ q) rfl
 ·exact n2 k (List.mem_append_left _ (List.mem_append_right _ (e _ _ h))) k q rfl
 ·exact n2 k (List.mem_append_right _ (e _ _ h)) k q rfl
section
variable {w w' : World} {B : Nat} {h : Hd} {lx : List Mr} {A : Acc}
theorem zeE {x : Mr} {k : Nat} (hx : x ∈ lx) (hk : k ∉ lx.flatMap Mr.bs) : x.b.v.ownBlock ≠ some k ∧ x.f.v.ownBlock ≠ some k :=
 ⟨fun e => hk (List.mem_flatMap.2 ⟨x, hx, by unfold Mr.bs; rw [List.mem_append, zaz, zaz]; exact .inl e⟩), fun e => hk (List.mem_flatMap.2 ⟨x, hx, by unfold Mr.bs; rw [List.mem_append, zaz, zaz]; exact .inr e⟩)⟩
theorem AccP.setB (o : AccP w h lx A) {v : Sl} {l : List Bx} {B' : Nat} (hv : OwnB w B' v.v l) : AccP w { h with B := v } lx { A with boxes := l } :=
 ⟨zaj hv (Nat.zero_le _), o.s, o.n, o.m, o.ml, o.mb⟩
theorem AccO.setS (o : AccO w B h lx A) (k : Kp w w' (own_ h.S.v)) {v : Sl} {l : List Sc} {B' : Nat} (hv : OwnSrc w' B' v.v l) : AccP w' { h with S := v } lx { A with scripts := l } := by
 obtain ⟨h1, h2, h3, h4⟩ := nd4 o.nd
 have o := o.p
 exact ⟨zah o.b k fun q hq e => (h1 q hq).1 e, zaj hv (Nat.zero_le _), zah o.n k fun q hq e => (h2 q e).1 hq, zah o.m k fun q hq e => (h2 q e).2.1 hq, o.ml, fun x hx => ⟨zah (o.mb x hx).1 k fun q hq e => (zeE hx (h2 q e).2.2).1 hq, zah (o.mb x hx).2 k fun q hq e => (zeE hx (h2 q e).2.2).2 hq⟩⟩
theorem AccO.setN (o : AccO w B h lx A) (k : Kp w w' (own_ h.N.v)) {v : Sl} {l : List Sn} {B' : Nat} (hv : OwnSn w' B' v.v l) : AccP w' { h with N := v } lx { A with seen := l } := by
 obtain ⟨h1, h2, h3, h4⟩ := nd4 o.nd
 have o := o.p
 exact ⟨zah o.b k fun q hq e => (h1 q hq).2.1 e, zah o.s k fun q hq e => (h2 q hq).1 e, zaj hv (Nat.zero_le _), zah o.m k fun q hq e => (h3 q e).1 hq, o.ml, fun x hx => ⟨zah (o.mb x hx).1 k fun q hq e => (zeE hx (h3 q e).2).1 hq, zah (o.mb x hx).2 k fun q hq e => (zeE hx (h3 q e).2).2 hq⟩⟩
theorem AccO.setM (o : AccO w B h lx A) (k : Kp w w' (own_ h.M.v)) {v : Sl} {ly : List Mr} {l : List Ml} {B' : Nat} (hv : OwnMl w' B' v.v ly) (hl : ly.map (·.m) = l)
  (hy : ∀ y ∈ ly, y ∈ lx ∨ (OwnI w' 0 y.b.v y.m.boxes ∧ OwnT w' 0 y.f.v y.m.flags)) : AccP w' { h with M := v } ly { A with mails := l } := by
 obtain ⟨h1, h2, h3, h4⟩ := nd4 o.nd
 have o := o.p
 refine ⟨zah o.b k fun q hq e => (h1 q hq).2.2.1 e, zah o.s k fun q hq e => (h2 q hq).2.1 e, zah o.n k fun q hq e => (h3 q hq).1 e, zaj hv (Nat.zero_le _), hl, fun x hx => ?_⟩
 rcases hy x hx with hx | hx
 ·exact ⟨zah (o.mb x hx).1 k fun q hq e => (zeE hx (h4 q e)).1 hq, zah (o.mb x hx).2 k fun q hq e => (zeE hx (h4 q e)).2 hq⟩
 ·exact hx
theorem zeb {w5 w6 : World} {b : Nat} {h' : Hd} {ly : List Mr} {A' : Acc} (hv : VarK w6 b 65 (accC h' A')) (P : AccP w5 h' ly A') (k : Kp w5 w6 (one_ b)) (hne : ∀ q ∈ h'.all ly, q ≠ b) : ∃ h', VarK w6 b 65 (accC h' A') ∧ AccR w6 h' A' ∧ StabA w6 h' A' :=
 ⟨h', hv, (P.keep k fun q hq e => hne q hq e).read, (P.keep k fun q hq e => hne q hq e).stab⟩
theorem Drf.all {b : Nat} (d : Drf w B b h lx A) : ∀ k ∈ h.all lx, k < b := d.lt
end
section
variable {w : World}
theorem zoE {B b : Nat} {h : Hd} {lx : List Mr} {A : Acc} {v : Ov} {o : Opr} (hd : Drf w B b h lx A) (hf : Fit A) (ho : OpR w v o) (fo : FitO o) :
  Calls Tryz.prog 28 #[.pointer (some ⟨b, 0, none⟩), .agg (opC v o).toArray] w fun e w' => Done w' b e (moveA A o) ∧ Kp w w' (from_ B) := by
 have fml := hf.ml
 have fob := fo.b
 have hbn : v.b.n = o.boxes.length := by
  obtain ⟨a, c, e, _⟩ := ho.b
  injection e
 have hnil : o.boxes = [] ↔ v.b.n = 0 := by rw [hbn, List.length_eq_zero_iff]
 refine zaa (args := [.pointer (some ⟨b, 0, none⟩), .agg (opC v o).toArray]) Tryz.func28 rfl NL ?_; refine GW ?_
 obtain ⟨a_b1, v_b1, k_w1, z_w1, r_w1⟩ := new5 w 28 (opC v o)
 generalize w.alloc (.cells (List.toArray (opC v o)) 28) = w1 at *
 generalize hs_b1 : w.heap.size = b1 at *
 refine KGO ?_
 refine CallS.of (Tryz.call75 _ _) (ac_of (w := w1) (v := v) (o := o) (hd.keep k_w1) hf.ml) ?_
 rintro e w2 ⟨hof, k2⟩
 have K2 := k_w1.trans0 k2
 have a2 := zac a_b1 k2
 cases hA : ofA A o with
 | error c =>
  rw [hA] at hof
  subst hof
  have hc := zhO hA
  have hres : moveA A o = .error c := by unfold moveA; rw [hA]
  refine RT ?_
  refine KGO ?_
  exact ⟨by rw [hres]; rfl, K2.of_none⟩
 | ok m =>
  rw [hA] at hof
  obtain ⟨i, g, hi, rfl, hma, hxm, hid, hfirst⟩ := hof
  refine RT ?_
  have kr2 := Kp.refl w2 n_
  by_cases h1 : v.b.n = 0
  ·have hres : moveA A o = .error 1 := by unfold moveA; rw [hA]; dsimp only; rw [if_pos (hnil.2 h1)]
   refine KGO ?_
   exact ⟨by rw [hres]; rfl, K2.of_none⟩
  have hdA := hd.v.at
  refine KGO ?_
  refine CallS.of (Tryz.call74 _ _) (zgT (w := w2.drew) (h := h) (A := A) o.boxes (hd.o.read.b.keep K2.drew) (by have := hf.bl; omega) (ho.b.keep K2.drew) (by omega)) ?_
  rintro e w3 ⟨rfl, k3⟩
  have K3 := K2.drew.trans0 k3
  have a3 := zac a2 ((Kp.refl w2 n_).drew.trans0 k3)
  refine RT ?_
  by_cases h2 : thereB A.boxes o.boxes = true
  rotate_left
  ·have h2 : thereB A.boxes o.boxes = false := by simpa using h2
   have hres : moveA A o = .error 5 := by unfold moveA; rw [hA]; dsimp only; rw [if_neg (fun e => h1 (hnil.1 e)), if_pos h2]
   rw [h2]
   refine KGO ?_
   exact ⟨by rw [hres]; rfl, K3.of_none⟩
  have hres : moveA A o = .ok ({ A with mails := updA A.mails o.id fun m => { m with boxes := sortI o.boxes, mod := A.st } }, 0) := by unfold moveA; rw [hA]; dsimp only; rw [if_neg (fun e => h1 (hnil.1 e)), if_neg (by rw [h2]; simp)]
  rw [h2]
  refine KGO ?_
  have hgM0 : h.M.v.ownBlock = some g := by
   have e : h.M.v = .slice (some ⟨g, 0, none⟩) h.M.n h.M.c := by show Value.slice h.M.a h.M.n h.M.c = _; rw [hma]
   rw [e]; rfl
  have hgb0 : g < b := hd.lt g (Hd.all_m hgM0)
  have hbw : b < w.heap.size := hd.v.lt
  have hd3 := zac hdA K3
  have hS1 : ∀ u, Kp w3 u (one_ g) → At u b1 0 (opC v o) := fun u hu => zaM a3 hu fun e => by have e : b1 = g := e; omega
  have hS2 : ∀ u, Kp w3 u (one_ g) → At u b 0 (accC h A) := fun u hu => zaM hd3 hu fun e => by have e : b = g := e; omega
  refine Draw.held (fun u => Kp w3 u (one_ g)) (fun _ => true) (by decide +kernel) (Kp.refl _ _).drew ?_
  refine KGO ?_
  refine Held.one (by rfl) (fun u hu => hS1 u hu 39 _ rfl) ?_
  refine KGO ?_
  refine CallS.of (Tryz.call71 _ _) (zdU (w := w3.drew) o.boxes (ho.b.keep K3.drew) (by omega)) ?_
  rintro e w4 ⟨v4, rfl, o4, k4⟩
  obtain ⟨a4, c4, rfl⟩ := zab o4
  have J4 : Kp w3 w4 n_ := (Kp.refl w3 n_).drew.trans0 k4
  have K4 := K3.trans0 J4
  have kS : Kp w3 w4 (one_ g) := J4.of_none
  refine RT ?_
  refine ⟨kS, ?_⟩
  refine KGO ?_
  refine Held.one (by rfl) (fun u hu => hS2 u hu 7 _ rfl) ?_
  refine KGO ?_
  generalize hx : lx[i] = x at *
  subst hxm
  have oM := zaf hd.o.m K4
  rcases own_blockK oM with ⟨_, h0⟩ | ⟨gM, cap, cells, heM, hBg, hvM, hnc, hcm, hcl, htk⟩
  ·omega
  have heM' := heM
  injection heM with heM1 heM2 heM3
  rw [hma] at heM1
  injection heM1 with heM1
  injection heM1 with heM1
  subst heM1
  refine Store.atK (i := 0 + i * 38 + 33) hvM (by rw [hcl]; omega) (by rfl) ⟨rfl, by simp, by simp⟩ fun wA vA kA => ?_
  refine ⟨(kS.trans' kA), ?_⟩
  rw [show 0 + i * 38 + 33 = i * 38 + 33 by omega] at vA
  have oA := zbp (w := w4) lenMl (l := lx) (k := i) (j := 33) (x := ⟨x.m, ⟨a4, (sortI o.boxes).length, c4⟩, x.f⟩) hi (by decide) (by rw [hx]; rfl) hBg hnc hcm hcl htk vA
  rcases own_blockK oA with ⟨hq, _⟩ | ⟨gA, capA, cellsA, heA, hBA, hvA, hncA, hcmA, hclA, htkA⟩
  ·cases hq
  injection heA with heA1 heA2 heA3
  injection heA1 with heA1
  injection heA1 with heA1
  subst heA1; subst heA3
  refine KGO ?_
  refine Store.atK (i := 0 + i * 38 + 37) hvA (by rw [hclA]; omega) (by rfl) ⟨rfl, by simp, by simp⟩ fun wB vB kB => ?_
  refine ⟨(kS.trans' kA).trans' kB, ?_⟩
  rw [show 0 + i * 38 + 37 = i * 38 + 37 by omega] at vB
  have oB := zbp (w := wA) lenMl (l := lx.set i ⟨x.m, ⟨a4, (sortI o.boxes).length, c4⟩, x.f⟩) (k := i) (j := 37) (x := ⟨{ x.m with boxes := sortI o.boxes, mod := A.st }, ⟨a4, (sortI o.boxes).length, c4⟩, x.f⟩) (by rw [List.length_set]; exact hi) (by decide) (by rw [List.getElem_set_self]; rfl) hBA (by rw [List.length_set]; exact hncA) hcmA hclA (by rw [List.length_set]; exact htkA) vB
  rw [List.length_set, List.set_set] at oB
  have kAB := kA.trans' kB
  have hrowB : OwnMl wB B h.M.v (lx.set i ⟨{ x.m with boxes := sortI o.boxes, mod := A.st }, ⟨a4, (sortI o.boxes).length, c4⟩, x.f⟩) := by
   rw [heM']
   unfold OwnMl
   rw [List.length_set]
   exact oB
  have hgM : h.M.v.ownBlock = some g := by rw [heM']; rfl
  have hneM := zlD hd.o K4 kAB hgM
  have hgb : g < w.heap.size := by have := hd.lt g (List.mem_append_left _ (List.mem_append_right _ (zaz.2 hgM))); have := hd.v.lt; omega
  refine KGO ?_
  refine ⟨?_, zfT K4 kAB hBg⟩
  rw [hres]
  refine ⟨rfl, zkF hd K4 kAB hgM hrowB (fun y hy => ?_) ?_⟩
  ·rcases List.mem_or_eq_of_mem_set hy with hy | rfl
   ·exact hneM y hy
   ·have hx2 := hneM x (by rw [← hx]; exact List.getElem_mem hi)
    exact ⟨zaj (zcb o4 kAB fun k hk => by have := (o4.lt k hk).1; have := K3.drew.size; omega) (Nat.zero_le _), hx2.2⟩
  ·rw [← znF hd.o.ml hi (by rw [hx]; exact hid) hfirst (fun m => { m with boxes := sortI o.boxes, mod := A.st }) (by rw [hx])]
end
section
variable {w : World}
theorem zjV {B b : Nat} {h : Hd} {lx : List Mr} {A : Acc} {v : Ov} {o : Opr} (hd : Drf w B b h lx A) (hf : Fit A) :
  Calls Tryz.prog 29 #[.pointer (some ⟨b, 0, none⟩), .agg (opC v o).toArray] w fun e w' => Done w' b e (destroyA A o) ∧ Kp w w' (from_ B) := by
 have fml := hf.ml
 refine zaa (args := [.pointer (some ⟨b, 0, none⟩), .agg (opC v o).toArray]) Tryz.func29 rfl NL ?_; refine GW ?_
 obtain ⟨a_b1, v_b1, k_w1, z_w1, r_w1⟩ := new5 w 28 (opC v o)
 generalize w.alloc (.cells (List.toArray (opC v o)) 28) = w1 at *
 generalize hs_b1 : w.heap.size = b1 at *
 refine KGO ?_
 refine CallS.of (Tryz.call75 _ _) (ac_of (w := w1) (v := v) (o := o) (hd.keep k_w1) hf.ml) ?_
 rintro e w2 ⟨hof, k2⟩
 have K2 := k_w1.trans0 k2
 have a2 := zac a_b1 k2
 cases hA : ofA A o with
 | error c =>
  rw [hA] at hof
  subst hof
  have hc := zhO hA
  have hres : destroyA A o = .error c := by unfold destroyA; rw [hA]
  refine RT ?_
  refine KGO ?_
  exact ⟨by rw [hres]; rfl, K2.of_none⟩
 | ok m =>
  rw [hA] at hof
  obtain ⟨i, g, hi, rfl, hma, hxm, hid, hfirst⟩ := hof
  have hres : destroyA A o = .ok ({ A with mails := delA A.mails o.id }, 0) := by unfold destroyA; rw [hA]
  refine RT ?_
  have kr2 := Kp.refl w2 n_
  have hdA := hd.v.at
  refine KGO ?_
  refine CallS.of (Tryz.call40 _ _) (zgO (w := w2.drew) (h := h) (A := A) o.id (hd.o.read.keep K2.drew) (by omega)) ?_
  rintro e w3 ⟨rfl, k3⟩
  have K3 := K2.drew.trans0 k3
  refine RT ?_
  have hlen : lx.length = A.mails.length := by rw [← hd.o.ml, List.length_map]
  have hxj : ∀ j (hj : j < lx.length), A.mails[j]'(by omega) = (lx[j]).m := fun j hj => by simp [← hd.o.ml]
  have hpl : placeL A.mails o.id = (i : Nat) := by
   rcases place_find A.mails o.id with ⟨hp, hfd⟩ | ⟨i', hi', hp, hfd, hid', hfirst'⟩
   ·exfalso
    have := List.find?_eq_none.1 hfd (A.mails[i]'(by omega)) (List.getElem_mem _)
    apply this
    rw [hxj i hi, hxm]
    simpa using hid
   ·rw [hp]
    congr 1
    rcases Nat.lt_trichotomy i' i with q | q | q
    ·exact absurd (by rw [← hxj i' (by omega)]; exact hid') (hfirst i' q)
    ·exact q
    ·exact absurd (by rw [hxj i hi, hxm]; exact hid) (hfirst' i q)
  rw [hpl]
  refine KGO ?_
  have o3 := zaf hd.o.m K3
  refine CallS.of (Tryz.call79 _ _) (zpM (w := w3) lx i o3 hi (by omega)) ?_
  rintro e w4 ⟨v4, rfl, o4, k4, hb4⟩
  have hd3 := hd.keep K3
  obtain ⟨a4, c4, rfl⟩ := zab o4
  have hown : ∀ q, own_ h.M.v q → q < b := fun q hq => hd.lt q (Hd.all_m hq)
  have vA := hd3.v.keep k4 fun e => by have := hown b e; omega
  have P := hd3.o.setM (v := ⟨a4, _, c4⟩) k4 o4 (l := delA A.mails o.id) (by
   rw [List.map_append, List.map_take, List.map_drop, hd.o.ml]
   exact (zer o.id A.mails i (by omega) (by rw [hxj i hi, hxm]; exact hid) fun j hj => by rw [hxj j (by omega)]; exact hfirst j hj).symm) fun y hy => .inl (by
    rcases List.mem_append.1 hy with hy | hy
    ·exact List.mem_of_mem_take hy
    ·exact List.mem_of_mem_drop hy)
  refine RT ?_
  refine KGO ?_
  refine SCK 1 vA fun w5 vA5 k5 => ?_
  refine KGO ?_
  rw [hres]
  refine ⟨⟨rfl, zeb (h' := { h with M := ⟨a4, _, c4⟩ }) vA5 P k5 fun q hq => ?_⟩, (K3.of_none.trans' (k4.mono fun q _ hq => ?_)).trans' (k5.mono fun q _ hq => ?_)⟩
  ·have hall : q ∈ h.all lx ∨ (Value.slice a4 (lx.take i ++ lx.drop (i + 1)).length c4).ownBlock = some q := by
    unfold Hd.all Hd.bs at hq
    simp only [List.mem_append, zaz] at hq
    rcases hq with (((hq | hq) | hq) | hq) | hq
    ·exact .inl (Hd.all_b hq)
    ·exact .inl (Hd.all_s hq)
    ·exact .inl (Hd.all_n hq)
    ·exact .inr hq
    ·obtain ⟨x, hx, hq⟩ := List.mem_flatMap.1 hq
     refine .inl (List.mem_append_right _ (List.mem_flatMap.2 ⟨x, ?_, hq⟩))
     rcases List.mem_append.1 hx with hx | hx
     ·exact List.mem_of_mem_take hx
     ·exact List.mem_of_mem_drop hx
   rcases hall with hq | hq
   ·have := hd.lt q hq; omega
   ·rw [hb4] at hq
    have := hown q hq; omega
  ·exact (hd.o.m.lt q hq).1
  ·have e : q = b := hq
   have := hd.B
   show B ≤ q
   omega
theorem zjF {B B2 b c : Nat} {h : Hd} {lx : List Mr} {A : Acc} {v : Value} (l : List Bx) (hd : Drf w B b h lx A) (hv : OwnB w B2 v l) (hB : b < B2) :
  Calls Tryz.prog 80 #[.pointer (some ⟨b, 0, none⟩), v, .int .i64 (c : Nat)] w fun e w' => Done w' b e (boxesA A (l, c)) ∧ Kp w w' (from_ B) := by
 obtain ⟨a, cp, rfl⟩ := zab hv
 refine zaa (args := [.pointer (some ⟨b, 0, none⟩), .slice a l.length cp, .int .i64 (c : Nat)]) Tryz.func80 rfl NL ?_; refine GW ?_
 by_cases h0 : c = 0
 ·subst h0
  refine KGO ?_
  refine SCK 0 hd.v fun w5 vA5 k5 => ?_
  refine KGO ?_
  have hres : boxesA A (l, 0) = .ok ({ A with boxes := l }, 0) := by simp [boxesA]
  rw [hres]
  refine ⟨⟨rfl, zeb (h' := { h with B := ⟨a, _, cp⟩ }) vA5 (hd.o.p.setB hv) k5 fun q hq => ?_⟩, k5.mono fun q _ hq => ?_⟩
  ·unfold Hd.all Hd.bs at hq
   simp only [List.mem_append, zaz] at hq
   rcases hq with (((hq | hq) | hq) | hq) | hq
   ·have := (hv.lt q hq).1; omega
   ·have := hd.lt q (Hd.all_s hq); omega
   ·have := hd.lt q (Hd.all_n hq); omega
   ·have := hd.lt q (Hd.all_m hq); omega
   ·have := hd.lt q (List.mem_append_right _ hq); omega
  ·have e : q = b := hq
   have := hd.B
   show B ≤ q
   omega
 ·have hres : boxesA A (l, c) = .error c := by simp [boxesA, h0]
  rw [hres]
  refine KGO ?_
  exact ⟨rfl, Kp.refl _ _⟩
end
end Go.Proofs.YtohhkegmbgancaaGreatDoor
namespace Go.Proofs.YtohhkegmbgancaaGreatDoor
set_option maxHeartbeats 8000000
open Go.RowKit Go.Pw Go.Vc Go.Cs Go.Lib
set_option linter.unusedVariables false
set_option maxRecDepth 100000
section
variable {w w' : World}
def optV : Option Int → Value
 | none => .tuple #[.int .i64 0, .bool false]
 | some i => .tuple #[.int .i64 i, .bool true]
end
end Go.Proofs.YtohhkegmbgancaaGreatDoor
namespace Go.Cs
set_option maxHeartbeats 8000000
open Go.Lib
set_option linter.unusedVariables false
end Go.Cs
namespace Go.Proofs.YtohhkegmbgancaaGreatDoor
set_option maxHeartbeats 8000000
open Go.RowKit Go.Pw Go.Vc Go.Cs Go.Lib
set_option linter.unusedVariables false
set_option maxRecDepth 100000
section
end
end Go.Proofs.YtohhkegmbgancaaGreatDoor
namespace Go.Proofs.YtohhkegmbgancaaGreatDoor
set_option maxHeartbeats 8000000
open Go.Shelf Go.RowKit Go.Pw Go.Vc Go.Cs Go.Lib
set_option linter.unusedVariables false
set_option maxRecDepth 100000
theorem Done.returned {w : World} {b : Nat} {e : Ending} {r : Except Nat (Acc × Int)} (h : Done w b e r) : ∃ n c : Int, e = .returned (.tuple #[.int .i64 n, .int .i64 c]) := by
 cases r with
 | error c => exact ⟨_, _, h⟩
 | ok r => exact ⟨_, _, h.1⟩
section
variable {w : World}
theorem zdY {B : Nat} {w w1 w2 : World} (k : Kp w w1 n_) (k2 : Kp w1 w2 (from_ B)) : Kp w w2 (from_ B) := k.of_none.trans' k2
theorem zoC {B b : Nat} {h : Hd} {lx : List Mr} {A : Acc} {v : Ov} {o : Opr} (hd : Drf w B b h lx A) (hf : Fit A) (fo : FitO o) (hE : BEnv w) :
  Calls Tryz.prog 31 #[.pointer (some ⟨b, 0, none⟩), .agg (opC v o).toArray] w fun e w' => Done w' b e (nameA A o) ∧ Kp w w' (from_ B) := by
 refine zaa (args := [.pointer (some ⟨b, 0, none⟩), .agg (opC v o).toArray]) Tryz.func31 rfl NL ?_; refine GW ?_
 obtain ⟨a_b1, v_b1, k_w1, z_w1, r_w1⟩ := new5 w 28 (opC v o)
 generalize w.alloc (.cells (List.toArray (opC v o)) 28) = w1 at *
 generalize hs_b1 : w.heap.size = b1 at *
 have hdA := hd.v.at
 refine KGO ?_
 refine CallS.of (Tryz.call81 _ _) (zpe (w := w1.drew) A.boxes o.box o.name (hd.o.read.b.keep k_w1.drew) hf.bl hf.bs fo.nm (hE.keep k_w1.drew)) ?_
 rintro e w2 ⟨v2, rfl, o2, k2⟩
 have K2 := k_w1.drew.trans0 k2
 have hbw : b < w.heap.size := hd.v.lt
 obtain ⟨a2, c2, rfl⟩ := zab o2
 refine RT ?_
 refine KGO ?_
 refine CallS.of (Tryz.call80 _ _) (zjF (w := w2) (c := (nameL A.boxes o.box o.name).2) (nameL A.boxes o.box o.name).1 (hd.keep K2) o2 (by have := k_w1.drew.size; omega)) ?_
 rintro e w3 ⟨hD, k3⟩
 obtain ⟨n, c, rfl⟩ := hD.returned
 refine RT ?_
 refine KGO ?_
 exact ⟨hD, zdY K2 k3⟩
theorem zot {B b : Nat} {h : Hd} {lx : List Mr} {A : Acc} {v : Ov} {o : Opr} (hd : Drf w B b h lx A) (hf : Fit A) (hE : BEnv w) :
  Calls Tryz.prog 32 #[.pointer (some ⟨b, 0, none⟩), .agg (opC v o).toArray] w fun e w' => Done w' b e (hangA A o) ∧ Kp w w' (from_ B) := by
 refine zaa (args := [.pointer (some ⟨b, 0, none⟩), .agg (opC v o).toArray]) Tryz.func32 rfl NL ?_; refine GW ?_
 obtain ⟨a_b1, v_b1, k_w1, z_w1, r_w1⟩ := new5 w 28 (opC v o)
 generalize w.alloc (.cells (List.toArray (opC v o)) 28) = w1 at *
 generalize hs_b1 : w.heap.size = b1 at *
 have hdA := hd.v.at
 refine KGO ?_
 refine CallS.of (Tryz.call82 _ _) (znX (w := w1.drew) A.boxes o.box o.up (hd.o.read.b.keep k_w1.drew) hf.bl hf.bs (hE.keep k_w1.drew)) ?_
 rintro e w2 ⟨v2, rfl, o2, k2⟩
 have K2 := k_w1.drew.trans0 k2
 have hbw : b < w.heap.size := hd.v.lt
 obtain ⟨a2, c2, rfl⟩ := zab o2
 refine RT ?_
 refine KGO ?_
 refine CallS.of (Tryz.call80 _ _) (zjF (w := w2) (c := (moveL A.boxes o.box o.up).2) (moveL A.boxes o.box o.up).1 (hd.keep K2) o2 (by have := k_w1.drew.size; omega)) ?_
 rintro e w3 ⟨hD, k3⟩
 obtain ⟨n, c, rfl⟩ := hD.returned
 refine RT ?_
 refine KGO ?_
 exact ⟨hD, zdY K2 k3⟩
theorem zpR {B b : Nat} {h : Hd} {lx : List Mr} {A : Acc} {v : Ov} {o : Opr} (hd : Drf w B b h lx A) (hf : Fit A) (fo : FitO o) (hE : BEnv w) :
  Calls Tryz.prog 30 #[.pointer (some ⟨b, 0, none⟩), .agg (opC v o).toArray] w fun e w' => Done w' b e (addA A o) ∧ Kp w w' (from_ B) := by
 have hnb := hf.nb
 refine zaa (args := [.pointer (some ⟨b, 0, none⟩), .agg (opC v o).toArray]) Tryz.func30 rfl NL ?_; refine GW ?_
 obtain ⟨a_b1, v_b1, k_w1, z_w1, r_w1⟩ := new5 w 28 (opC v o)
 generalize w.alloc (.cells (List.toArray (opC v o)) 28) = w1 at *
 generalize hs_b1 : w.heap.size = b1 at *
 have hdA := hd.v.at
 by_cases h1 : 1099511627776 ≤ A.nb
 ·have hres : addA A o = .error 3 := by unfold addA; rw [if_pos h1]
  refine KGO ?_
  exact ⟨by rw [hres]; rfl, k_w1.of_none⟩
 refine KGO ?_
 refine CallS.of (Tryz.call25 _ _) (znC (w := w1.drew) A.boxes o.up o.name o.role A.nb (hd.o.read.b.keep k_w1.drew) hf.bl hf.bs fo.nm (hE.keep k_w1.drew)) ?_
 rintro e w2 ⟨v2, rfl, o2, k2⟩
 have K2 := k_w1.drew.trans0 k2
 have hbw : b < w.heap.size := hd.v.lt
 have hz1 := k_w1.drew.size
 obtain ⟨a2, c2, rfl⟩ := zab o2
 refine RT ?_
 by_cases h2 : (addL A.boxes o.up o.name o.role A.nb).2 = 0
 rotate_left
 ·have hres : addA A o = .error (addL A.boxes o.up o.name o.role A.nb).2 := by unfold addA; rw [if_neg h1, if_pos h2]
  generalize addL A.boxes o.up o.name o.role A.nb = r at *
  refine KGO ?_
  exact ⟨by rw [hres]; rfl, K2.of_none⟩
 have hres : addA A o = .ok ({ A with boxes := (addL A.boxes o.up o.name o.role A.nb).1, nb := A.nb + 1 }, A.nb) := by unfold addA; rw [if_neg h1, if_neg (fun e => e h2)]
 rw [h2]
 generalize addL A.boxes o.up o.name o.role A.nb = r at *
 refine KGO ?_
 refine Store.cellK (i := 0) (hd.v.keep0 K2) NL (by rfl) ⟨rfl, by simp, by simp⟩ fun w3 v3 k3 => ?_
 have hd3 := v3.at
 refine KGO ?_
 refine SCK 6 v3 fun w4 v4 k4 => ?_
 have hd4 := v4.at
 refine KGO ?_
 rw [hres]
 have k34 := k3.trans' k4
 refine ⟨⟨?_, zeb (w5 := w2) (ly := lx) (h' := { h with B := ⟨a2, _, c2⟩ }) (A' := { A with boxes := r.1, nb := A.nb + 1 }) v4 ?_ k34 fun q hq => ?_⟩, zdY K2 (k34.mono fun q _ hq => ?_)⟩
 ·rw [show A.nb + 1 - 1 = A.nb by omega]
 ·have := (hd.keep K2).o.p.setB (v := ⟨a2, _, c2⟩) o2
  exact ⟨this.b, this.s, this.n, this.m, this.ml, this.mb⟩
 ·unfold Hd.all Hd.bs at hq
  simp only [List.mem_append, zaz] at hq
  rcases hq with (((hq | hq) | hq) | hq) | hq
  ·have := (o2.lt q hq).1; omega
  ·have := hd.lt q (Hd.all_s hq); omega
  ·have := hd.lt q (Hd.all_n hq); omega
  ·have := hd.lt q (Hd.all_m hq); omega
  ·have := hd.lt q (List.mem_append_right _ hq); omega
 ·have e : q = b := hq
  have := hd.B
  show B ≤ q
  omega
end
end Go.Proofs.YtohhkegmbgancaaGreatDoor
