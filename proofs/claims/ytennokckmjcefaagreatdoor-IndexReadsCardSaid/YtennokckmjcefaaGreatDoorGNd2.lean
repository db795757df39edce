/- Helper lemmas; no conditions of their own. -/
import Derived.Test.YtennokckmjcefaaGreatDoorGNfn
set_option linter.unusedVariables false
set_option maxHeartbeats 8000000
set_option maxRecDepth 100000
namespace Go.Proofs.YtennokckmjcefaaGreatDoor
open Go.Shelf Go.RowKit Go.Pw Go.Vc Go.Cs Go.Lib Go.Cd Go.Mg
theorem RunN.appAt {P : Program} {w : World} {K : Value → World → Prop} {t ty e : TypeId} {cs : Array Bool} {B s n bytes : Nat} {z v : Value} {xs : List Value} (ht : P.underlying t = some (.slice e)) (hb : (P.info? e).map (fun i => (i.zero, i.size, i.bytes)) = some (some z, s, bytes)) (hz : z.cells.size = s) (hs : 0 < s)
  (hown : w.ownsRow B e s v n xs) (hB : B ≤ w.heap.size) (a : Addr) (m c : Nat) (news : List Value) (hl : news.length = m * s) (hnews : ∀ j u, news[j]? = some u → w.cell? (a.add j) = some u) (h1 : ∀ u ∈ news, u.oneCell' = true)
  (h63 : n + m ≤ 9223372036854775807) (hbytes : (n + m) * bytes ≤ 140737488355328)
  (k : ∀ v' w', w'.ownsRow B e s v' (n + m) (xs ++ news) → w.grownBy w' v.ownBlock → (v'.ownBlock = v.ownBlock ∨ v'.ownBlock = some w.heap.size) → K v' w') : RunN P (builtin .append #[t, t] ty cs [v, .slice (some a) m c].toArray) w K := by
 obtain ⟨i, hi, hi2⟩ := ybk.1 hb
 simp only [Prod.mk.injEq] at hi2
 obtain ⟨z1, z2, z3⟩ := hi2
 obtain ⟨v', w', h1', h2, h3, _, h5⟩ := run_append_own_at (P := P) w B t ty e i z s bytes ht hi z1 z2 z3 hz hs v n xs hown a m c news hl hnews h1 (by rw [show maxLen = 9223372036854775807 from rfl]; omega) hbytes hB
 refine ⟨v', w', ?_, k v' w' h2 h3 h5⟩
 show (do pure (Next.value (← Builtin.append_ #[t, t] ty #[v, .slice (some a) m c])) : Sem Next).run P w = _
 simp [h1']
section
variable {w : World}
theorem zqD {f : Fr} {x : Operand} (w : World) (hx : ev f x = .int .i64 0 := by rfl) : (Instr.sliceAt 40 (.slice none 0 0) ((some x).map (ev f)) none none).run Tryz.prog w = .ok (.slice none 0 0) w := by
 obtain ⟨i, hi, _, hs, _⟩ := zcc infoI
 simp [Instr.sliceAt, hx, Instr.slice, Instr.sliceBounds, go_sem, und_ok Tryz.underlying40, size_ok hi]
theorem ov_I {vb g o n c : Nat} {cells : List Value} {b : Int} (hvb : VarK w vb 3 (inC b)) (hv : VarK w g 3 cells) (hne : vb ≠ g) (h0 : cells.length ≠ 0) :
  (callFunc 132 #[.slice (some ⟨vb, 0, none⟩) 1 1, .slice (some ⟨g, o, none⟩) n c]).run Tryz.prog w = .ok (.value (.bool false)) w := by
 have hsz : ∀ w, (Go.sizeOf 3).run Tryz.prog w = .ok 1 w := fun w => by
  obtain ⟨i, hi, _, hs, _⟩ := zcc infoI
  rw [size_ok hi, hs]
 rw [run_callFunc_extern Tryz.func132 (by kernel_rfl) (by kernel_rfl) (by kernel_rfl) (e := Extern.SlicesOverlaps.overlaps #[40, 40] #[4]) (by kernel_rfl),
  Lib.run_overlaps_apart w 40 4 3 Tryz.underlying40 1 hsz ⟨vb, 0, none⟩ ⟨g, o, none⟩ 1 1 n c hne _ _ _ _ hvb.shape hv.shape h0 (hvb.frozen 0) (hvb.frozen _)]
 rfl
theorem ins_I {v : Value} {B vb : Nat} (l : List Int) (i : Nat) (b : Int) (ho : OwnI w B v l) (hB : B ≤ w.heap.size) (hi : i ≤ l.length) (hl : l.length ≤ 1000) (hvb : VarK w vb 3 (inC b)) (hne : ∀ g, v.ownBlock = some g → g ≠ vb) :
  Calls Tryz.prog 82 #[v, .int .i64 (i : Nat), .slice (some ⟨vb, 0, none⟩) 1 1] w fun e w' => ∃ v', e = .returned v' ∧ OwnI w' B v' (l.take i ++ b :: l.drop i) ∧ Kp w w' (fun k => w.heap.size ≤ k ∨ own_ v k) ∧ (∀ k, v'.ownBlock = some k → v.ownBlock = some k ∨ w.heap.size ≤ k) := by
 have hlenK := flatK_len inC 1 lenI
 have htkK := flatK_take inC 1 lenI
 have hdrK := flatK_drop inC 1 lenI
 have hnews : ∀ j u, (inC b)[j]? = some u → w.cell? ((⟨vb, 0, none⟩ : Addr).add j) = some u := hvb.cells w 0 fun j u h => by simpa using h
 by_cases hin : i = l.length
 ·subst hin
  have hend : ∀ v' w', w'.ownsRow B 3 1 v' (l.length + 1) (l.flatMap inC ++ inC b) → w.grownBy w' v.ownBlock → OwnI w' B v' (l.take l.length ++ b :: l.drop l.length) ∧ Kp w w' (fun k => w.heap.size ≤ k ∨ own_ v k) := fun v' w' h1 h2 => by
   rw [yaD, yce]
   refine ⟨?_, ⟨h2.os, h2.tape, h2.output, h2.size, fun k hk hn => h2.block k hk fun e => hn (.inr e.symm)⟩⟩
   unfold OwnI
   rw [yaa, yaC]
   simpa using h1
  have happ : ∀ {K : Value → World → Prop} {cs : Array Bool}, (∀ v' w', w'.ownsRow B 3 1 v' (l.length + 1) (l.flatMap inC ++ inC b) → w.grownBy w' v.ownBlock → (v'.ownBlock = v.ownBlock ∨ v'.ownBlock = some w.heap.size) → K v' w') → RunN Tryz.prog (builtin .append #[40, 40] 40 cs [v, .slice (some ⟨vb, 0, none⟩) 1 1].toArray) w K := fun k =>
   RunN.appAt Tryz.underlying40 infoI rfl (by decide) ho hB ⟨vb, 0, none⟩ 1 1 (inC b) rfl hnews (by have := oneI [b]; simpa using this) OM OM k
  rcases own_blockK ho with ⟨rfl, h0⟩ | ⟨g, cap, cells, rfl, hBg, hv, hnc, hcm, hcl, htk⟩
  ·rw [h0] at *
   refine zaa (args := [.slice none 0 0, .int .i64 (0 : Nat), .slice (some ⟨vb, 0, none⟩) 1 1]) Tryz.func82 rfl NL ?_; refine GW ?_
   refine Ye (v := .slice none 0 0) (w' := w) (zqD _) ?_
   refine KGO ?_
   refine happ fun v' w' h1 h2 h5 => ?_
   obtain ⟨q1, q2⟩ := hend v' w' h1 h2
   obtain ⟨a', c', rfl⟩ := zab h1
   refine KGO ?_
   exact ⟨_, rfl, q1, q2, fun k e => h5.elim (fun h => .inl (h ▸ e)) fun h => .inr (by have := h.symm.trans e; injection this with this; omega)⟩
  refine zaa (args := [.slice (some ⟨g, 0, none⟩) l.length cap, .int .i64 (l.length : Nat), .slice (some ⟨vb, 0, none⟩) 1 1]) Tryz.func82 rfl NL ?_; refine GW ?_
  refine KGO ?_
  refine happ fun v' w' h1 h2 h5 => ?_
  obtain ⟨q1, q2⟩ := hend v' w' h1 h2
  obtain ⟨a', c', rfl⟩ := zab h1
  refine KGO ?_
  exact ⟨_, rfl, q1, q2, fun k e => h5.elim (fun h => .inl (h ▸ e)) fun h => .inr (by have := h.symm.trans e; injection this with this; omega)⟩
 rcases own_blockK ho with ⟨rfl, h0⟩ | ⟨g, cap, cells, rfl, hBg, hv, hnc, hcm, hcl, htk⟩
 ·omega
 have hgvb : g ≠ vb := hne g rfl
 have hcells : cells = (l.take i).flatMap inC ++ ((l.drop i).flatMap inC ++ cells.drop (l.length * 1)) := by
  conv => lhs; rw [← yaB (l.length * 1) cells, htk, ← yaB (i * 1) (l.flatMap inC), htkK, hdrK]
  rw [yap]
 have hA : ((l.take i).flatMap inC).length = i * 1 := by rw [hlenK, yar, yaJ hi]
 have hD : ((l.drop i).flatMap inC).length = (l.length - i) * 1 := by rw [hlenK, yau]
 have hres : ((l.take i ++ b :: l.drop i).flatMap inC) = (l.take i).flatMap inC ++ inC b ++ (l.drop i).flatMap inC := by
  rw [yaC, yao, yap]
 have hresl : (l.take i ++ b :: l.drop i).length = l.length + 1 := by rw [yaa, yab, yar, yau]; omega
 have hsrcD : ∀ (w' : World), VarK w' g 3 cells → ∀ j u, ((l.drop i).flatMap inC)[j]? = some u → w'.cell? ((⟨g, 0 + i * 1, none⟩ : Addr).add j) = some u := fun w' h => h.cells w' _ fun j u hj => by
  rw [hcells, yaU, List.getElem?_append_right OM, hA, ybw, List.getElem?_append_left (by
   have := (List.getElem?_eq_some_iff.1 hj).1; exact this)]
  exact hj
 generalize hAe : (l.take i).flatMap inC = A at *
 generalize hDe : (l.drop i).flatMap inC = D at *
 refine zaa (args := [.slice (some ⟨g, 0, none⟩) l.length cap, .int .i64 (i : Nat), .slice (some ⟨vb, 0, none⟩) 1 1]) Tryz.func82 rfl NL ?_; refine GW ?_
 refine KGO ?_
 refine RunN.capK Tryz.underlying40 ?_
 by_cases hcap : cap < l.length + 1
 ·refine KGO ?_
  rw [if_neg (by omega : ¬ 0 = cap), show ((l.length : Nat) : Int) + ((1 : Nat) : Int) - ((i : Nat) : Int) = ((l.length + 1 - i : Nat) : Int) by omega, ybb, ybb]
  refine RunN.zerosK (olds := A) Tryz.underlying40 Tryz.underlying3 infoI rfl (by decide) hA (hv.cells w 0 fun j u hj => by rw [hcells, yaU, List.getElem?_append_left (List.getElem?_eq_some_iff.1 hj).1]; exact hj) OM OM OM OM fun w1 tail c' v1 hlen hge hcm' k1 => ?_
  rw [show i + (l.length + 1 - i) = l.length + 1 by omega] at hge ⊢
  have hvb1 := hvb.keep0 k1
  have hv1 := hv.keep0 k1
  have hB2 : B ≤ w.heap.size := hB
  have hg2 : g ≠ w.heap.size := by have := hv.lt; omega
  have hvb2 : vb ≠ w.heap.size := by have := hvb.lt; omega
  have hkB : ∀ {x y : World}, Kp x y (one_ w.heap.size) → Kp x y (fun k => w.heap.size ≤ k ∨ own_ (.slice (some ⟨g, 0, none⟩) l.length cap) k) := fun k => k.mono fun q _ e => by
   have e : q = _ := e
   exact .inl OM
  generalize w.heap.size = g2 at *
  refine KGO ?_
  rw [if_neg (by omega : ¬ i = c')]
  refine RunN.copyK Tryz.underlying40 infoI v1 (a := ⟨vb, 0, none⟩) (news := inC b) (m := 1) OM rfl (hvb1.cells _ 0 fun j u h => by simpa using h) (by have := oneI [b]; simpa using this) (by rw [hlen, lenI]; omega) fun w2 v2 k2 => ?_
  have v2 : VarK w2 g2 3 (patch (A ++ tail) (0 + i * 1) (inC b)) := v2
  rw [zed A tail (inC b) (0 + i * 1) (by rw [hA]; omega), lenI] at v2
  have hv2 : VarK w2.drew g 3 cells := hv1.keep (k2.drew) fun e => by
   have e : g = g2 := e
   exact hg2 e
  have v2d : VarK w2.drew g2 3 (A ++ inC b ++ tail.drop 1) := v2
  have htl : (A ++ tail).length = A.length + tail.length := yaa
  have htd : (tail.drop 1).length = tail.length - 1 := yau
  refine KGO ?_
  rw [if_neg (by omega : ¬ i + 1 = c'), if_neg (by omega : ¬ i = cap)]
  refine RunN.copyK Tryz.underlying40 infoI v2d (a := ⟨g, 0 + i * 1, none⟩) (news := D) (m := l.length - i) OM hD (hsrcD _ hv2) (by rw [← hDe]; exact oneI _) (by rw [yaa, yaa, hA, htd, hD, lenI]; omega) fun w3 v3 k3 => ?_
  have v3 : VarK w3 g2 3 (patch (A ++ inC b ++ tail.drop 1) (0 + (i + 1) * 1) D) := v3
  rw [zed (A ++ inC b) (tail.drop 1) D (0 + (i + 1) * 1) (by rw [yaa, hA, lenI]; omega)] at v3
  refine KGO ?_
  refine ⟨_, rfl, ?_, ((k1.of_none.trans' (hkB k2)).drew).trans' (hkB k3), fun k e => .inr (by have e2 : some g2 = some k := e; injection e2 with e2; omega)⟩
  unfold OwnI
  rw [hresl, hres]
  have hrl : (A ++ inC b ++ D).length = (l.length + 1) * 1 := by rw [yaa, yaa, hA, hD, lenI]; omega
  exact zbY OM v3 hge hcm' (by rw [yaa, hrl, yau, htd, hD]; omega) (by rw [← hrl, yaZ]) hrl
 refine KGO ?_
 refine CallS.ext (ov_I hvb hv (fun e => hgvb e.symm) (by rw [hcl]; omega)) ?_
 refine KGO ?_
 rw [if_neg (by omega : ¬ i + 1 = cap - 0), if_neg (by omega : ¬ i = cap - 0), if_neg (by omega : ¬ 0 = cap)]
 have hsrc : ∀ (w' : World), VarK w' g 3 cells → ∀ j u, D[j]? = some u → w'.cell? ((⟨g, 0 + 0 * 1 + i * 1, none⟩ : Addr).add j) = some u := fun w' h j u hj => by
  have := hsrcD w' h j u hj
  rwa [show 0 + 0 * 1 + i * 1 = 0 + i * 1 by omega]
 have hTl : (cells.drop (l.length * 1)).length = (cap - l.length) * 1 := by rw [yau, hcl]; omega
 generalize cells.drop (l.length * 1) = T at *
 have hvd : VarK w.drew g 3 (A ++ (D ++ T)) := by rw [← hcells]; exact hv
 have hADT : (A ++ (D ++ T)).length = cap * 1 := by rw [← hcells, hcl]
 refine RunN.copyK Tryz.underlying40 infoI hvd (a := ⟨g, 0 + 0 * 1 + i * 1, none⟩) (news := D) (m := l.length - i) OM hD (hsrc _ hv) (by rw [← hDe]; exact oneI _) (by rw [hADT, hD]; omega) fun w2 v2 k2 => ?_
 have hpl : (patch (A ++ (D ++ T)) (0 + 0 * 1 + (i + 1) * 1) D).length = cap * 1 := by rw [ziD (by rw [hADT, hD]; omega), hADT]
 have v2 : VarK w2 g 3 (patch (A ++ (D ++ T)) (0 + 0 * 1 + (i + 1) * 1) D) := v2
 obtain ⟨X, hX, hXl⟩ : ∃ X : List Value, A ++ (D ++ T) = A ++ X ++ (D ++ T).drop 1 ∧ X.length = 1 := ⟨(D ++ T).take 1, by rw [yap, yaB], by rw [yar, yaa, hD, hTl]; omega⟩
 rw [hX, zed (A ++ X) ((D ++ T).drop 1) D (0 + 0 * 1 + (i + 1) * 1) (by rw [yaa, hA, hXl]; omega), show A ++ X ++ D ++ ((D ++ T).drop 1).drop D.length = A ++ (X ++ D ++ ((D ++ T).drop 1).drop D.length) by simp] at v2
 have hlen2 : (A ++ (X ++ D ++ ((D ++ T).drop 1).drop D.length)).length = cap * 1 := by
  rw [← hpl, hX, zed (A ++ X) ((D ++ T).drop 1) D (0 + 0 * 1 + (i + 1) * 1) (by rw [yaa, hA, hXl]; omega)]
  simp
 have hvbd : VarK w.drew vb 3 (inC b) := hvb
 have hvb2 := hvbd.keep k2 fun e => by
  have e : vb = g := e
  exact hgvb e.symm
 refine KGO ?_
 rw [if_neg (by omega : ¬ i = cap - 0)]
 refine RunN.copyK Tryz.underlying40 infoI v2 (a := ⟨vb, 0, none⟩) (news := inC b) (m := 1) OM rfl (hvb2.cells _ 0 fun j u h => by simpa using h) (by have := oneI [b]; simpa using this) (by rw [hlen2, lenI]; omega) fun w3 v3 k3 => ?_
 have v3 : VarK w3 g 3 (patch (A ++ (X ++ D ++ ((D ++ T).drop 1).drop D.length)) (0 + 0 * 1 + i * 1) (inC b)) := v3
 have hl3 := ziD (cells := A ++ (X ++ D ++ ((D ++ T).drop 1).drop D.length)) (o := 0 + 0 * 1 + i * 1) (news := inC b) (by rw [hlen2, lenI]; omega)
 rw [zed A (X ++ D ++ ((D ++ T).drop 1).drop D.length) (inC b) (0 + 0 * 1 + i * 1) (by rw [hA]; omega), lenI, yap X, List.drop_append_of_le_length OM, ybD OM, yaT] at v3 hl3
 refine KGO ?_
 have hkB : ∀ {x y : World}, Kp x y (one_ g) → Kp x y (fun k => w.heap.size ≤ k ∨ own_ (.slice (some ⟨g, 0, none⟩) l.length cap) k) := fun k => k.mono fun q _ e => by
  have e : q = g := e
  exact .inr (by rw [e]; rfl)
 refine ⟨_, rfl, ?_, (((Yb w _).drew).trans' (hkB k2)).trans' (hkB k3), fun k e => .inl e⟩
 unfold OwnI
 rw [hresl, hres]
 have hrl : (A ++ inC b ++ D).length = (l.length + 1) * 1 := by rw [yaa, yaa, hA, hD, lenI]; omega
 refine zbY hBg v3 OM hcm (by rw [ybb, hl3, ← yap X, hlen2]) ?_ hrl
 rw [ybb, ← yap, ← hrl, yaZ]
theorem bs_Ik {v : Value} (l : List Int) (n : Int) (hv : RowI w v l) (hl : l.length ≤ 100000000000) : Calls Tryz.prog 81 #[v, .int .i64 n] w fun e w' =>
  ∃ (k : Nat) (b : Bool), e = .returned (.tuple #[.int .i64 (k : Nat), .bool b]) ∧ (AscB ltI l → b = decide (n ∈ l)) ∧ (AscB ltI l → k ≤ l.length ∧ (∀ m (hm : m < l.length), m < k → l[m] < n) ∧ ∀ m (hm : m < l.length), k ≤ m → ¬ l[m] < n) ∧ Kp w w' n_ := by
 obtain ⟨a, cap, rfl, hr⟩ := hv
 refine zaa (args := [.slice a l.length cap, .int .i64 n]) Tryz.func81 rfl NL ?_; refine GW ?_
 refine Yc (ι := Nat × Nat) (fun p => [(0, .slice a l.length cap), (1, .int .i64 n), (6, .int .i64 (l.length : Nat)), (7, .int .i64 (p.1 : Nat)), (8, .int .i64 (p.2 : Nat))])
  (fun p wr => Kp w wr n_ ∧ p.1 ≤ p.2 ∧ p.2 ≤ l.length ∧ (AscB ltI l → (∀ m (hm : m < l.length), m < p.1 → l[m] < n) ∧ ∀ m (hm : m < l.length), p.2 ≤ m → ¬ l[m] < n)) (fun p => p.2 - p.1) (0, l.length) FR
  ⟨Yb _ _, OM, yag _, fun _ => ⟨fun m _ hm => OM, fun m h1 h2 => OM⟩⟩ ?_
 rintro ⟨i, j⟩ g wr ⟨hK, hij, hj, hord⟩
 dsimp only at hij hj hord ⊢
 refine GW ?_
 by_cases hlt : i < j
 ·obtain ⟨gb, o, rfl, hgb, hat⟩ := hr OM
  refine KGO ?_
  rw [zid i j OM]
  have hm1 : i ≤ (i + j) / 2 := OM
  have hm2 : (i + j) / 2 < j := OM
  generalize (i + j) / 2 = h at *
  have hhl : h < l.length := OM
  have ch := zaJ hat hhl
  refine KGO ?_
  refine Ya (Tryz.call130 _ _) (zoH l[h] n) ?_
  rintro e w1 ⟨rfl, k1⟩
  refine RT ?_
  by_cases hc : l[h] < n
  ·refine KGO ?_
   refine ⟨(h + 1, j), FR, ⟨hK.trans0 k1, DO, hj, fun hp => ⟨fun m hm hmh => ?_, (hord hp).2⟩⟩, DO⟩
   dsimp only at hmh
   by_cases e : m = h
   ·subst e; exact hc
   have := of_decide_eq_true ((yaH.1 hp) m h hm hhl OM); omega
  refine KGO ?_
  refine ⟨(i, h), FR, ⟨hK.trans0 k1, DO, DO, fun hp => ⟨(hord hp).1, fun m hm hmh => ?_⟩⟩, DO⟩
  dsimp only at hmh
  by_cases e : m = h
  ·subst e; exact hc
  have := of_decide_eq_true ((yaH.1 hp) h m hhl hm OM); omega
 have hji : j = i := OM
 subst hji
 by_cases h17 : j < l.length
 ·obtain ⟨gb, o, rfl, hgb, hat⟩ := hr OM
  have ch := zaJ hat h17
  by_cases he : l[j] = n
  ·refine KGO ?_
   exact ⟨j, _, rfl, fun hp => (decide_eq_true (he ▸ yak h17)).symm, fun hp => ⟨OM, hord hp⟩, hK⟩
  have hno : AscB ltI l → n ∉ l := fun hp hm => by
   obtain ⟨m, hm', rfl⟩ := ybh hm
   rcases Nat.lt_trichotomy m j with h | h | h
   ·have := (hord hp).1 m hm' h; omega
   ·subst h; exact he rfl
   have h1 := of_decide_eq_true ((yaH.1 hp) j m h17 hm' h)
   have h2 := (hord hp).2 j h17 (yag _); omega
  refine KGO ?_
  refine Ya (Tryz.call131 _ _) (zru l[j]) ?_
  rintro e _ ⟨rfl, rfl⟩
  refine RT ?_
  refine KGO ?_
  exact ⟨j, _, rfl, fun hp => (decide_eq_false (hno hp)).symm, fun hp => ⟨OM, hord hp⟩, hK⟩
 refine KGO ?_
 refine ⟨j, _, rfl, fun hp => (decide_eq_false fun hm => ?_).symm, fun hp => ⟨OM, hord hp⟩, hK⟩
 obtain ⟨m, hm', rfl⟩ := ybh hm
 have := (hord hp).1 m hm' OM; omega
end
theorem zum {w : World} {v : Value} {B : Nat} (l : List Int) (g : Nat) (c0 : Value) (p : Int → Bool) (ho : OwnI w B v l) (hl : l.length ≤ 8796093022208) (hg : ∀ (args : Array Value) (w : World), (callFunc g args).run Tryz.prog w = .ok (.enter g args) w)
  (hp : ∀ x ∈ l, ∀ w', Kp w w' (own_ v) → Calls Tryz.prog g #[.int .i64 x, c0] w' fun e w'' => e = .returned (.bool (p x)) ∧ Kp w' w'' n_) :
  Calls Tryz.prog 201 #[v, .func (.func g) #[] #[c0]] w fun e w' => ∃ v', e = .returned v' ∧ OwnI w' B v' (l.filter fun x => !p x) ∧ Kp w w' (own_ v) ∧ (v'.ownBlock = v.ownBlock) := by
 obtain ⟨a, cap0, rfl⟩ := zab ho
 refine zaa (args := [.slice a l.length cap0, .func (.func g) #[] #[c0]]) Tryz.func201 rfl NL ?_; refine GW ?_
 refine Ya (Tryz.call236 _ _) (ztI l g c0 p (own_rowO ho) OM hg (fun x hx w' k => hp x hx w' k.of_none)) ?_
 rintro e w1 ⟨rfl, k1⟩
 refine RT ?_
 rcases idxP_lt p l with hi | ⟨i0, hi0, he0, hp0, hb0⟩
 ·rw [hi]
  refine KGO ?_
  refine ⟨_, rfl, ?_, k1.of_none, rfl⟩
  have hf : (l.filter fun x => !p x) = l := yaQ.2 fun x hx => by
   have h : ¬ l.any p = true := fun h => by have := (zfb p l).2 h; omega
   have := List.any_eq_false.1 (by simpa using h) x hx
   simpa using this
  rw [hf]
  exact own_keep0 ho k1
 rw [he0]
 rcases own_blockK ho with ⟨hnil, h0⟩ | ⟨gb, cap, cells0, hev, hBg, hv0, hnc, hcm, hcl0, htk0⟩
 ·omega
 injection hev with hev _ hcc
 subst hev; subst hcc
 have hgk : gb < w1.heap.size := ybv hv0.lt k1.size
 have ho1 := own_keep0 ho k1
 have hfl0 : ((l.take (i0 + 1)).filter fun x => !p x) = l.take i0 := by
  rw [zcK hi0, hp0]
  have : (l.take i0).filter (fun x => !p x) = l.take i0 := yaQ.2 fun x hx => by
   obtain ⟨j, hj, rfl⟩ := ybd.1 hx
   rw [hb0 j OM]; rfl
  rw [this]; simp
 refine KGO ?_
 refine Yc (ι := Nat × Nat × List Int) (fun q => [(0, .slice (some ⟨gb, 0, none⟩) l.length cap0), (1, .func (.func g) #[] #[c0]), (5, .int .i64 (q.1 : Nat)), (6, .int .i64 (q.2.1 : Nat))])
  (fun q wr => Kp w wr (one_ gb) ∧ q.2.1 ≤ l.length ∧ q.1 < q.2.1 ∧ q.2.2.length = l.length ∧ q.2.2.take q.1 = ((l.take q.2.1).filter fun x => !p x) ∧ q.2.2.drop q.2.1 = l.drop q.2.1 ∧ OwnI wr B (.slice (some ⟨gb, 0, none⟩) q.2.2.length cap0) q.2.2)
  (fun q => l.length - q.2.1) (i0, i0 + 1, l) FR ⟨k1.of_none, DO, DO, rfl, by dsimp only; rw [hfl0], rfl, ho1⟩ ?_
 clear ho1 hfl0 hb0 hp0 he0 hi0 i0
 rintro ⟨i, j, cur⟩ gg wr ⟨hK, hj, hij, hcl2, htk2, hdr2, ho2⟩
 dsimp only at hj hij hcl2 htk2 hdr2 ho2 ⊢
 rcases own_blockK ho2 with ⟨h, h0⟩ | ⟨g2, cap, cells, hev, hBg2, hv, hnc2, hcm2, hcl, htk⟩
 ·cases h
 injection hev with hev _ hcc
 injection hev with hev
 injection hev with hev
 subst hev; subst hcc
 have hrow := zdN ho2
 have kr := Yb wr n_
 refine GW ?_
 by_cases hlt : j < l.length
 ·have hcj : cur[j]'OM = l[j] := by
   have h1 : (cur.drop j)[0]? = (l.drop j)[0]? := by rw [hdr2]
   rw [List.getElem?_drop, List.getElem?_drop, ybJ, List.getElem?_eq_getElem OM, List.getElem?_eq_getElem hlt] at h1
   exact Option.some.inj h1
  have hfs := zcK (p := fun x => !p x) hlt
  have hjc : j < cur.length := OM
  obtain ⟨q, hq⟩ : ∃ q, p l[j] = q := ⟨_, rfl⟩
  have hmx := yak hlt
  rw [hq] at hfs
  have hcx := zaJ hrow (i := j) OM
  refine KGO ?_
  rw [hcj]
  generalize hxj : l[j] = x at *
  have hpc := hp x hmx wr (hK.mono fun q _ hq => by have hq : q = gb := hq; rw [hq]; rfl)
  rw [hq] at hpc
  refine Ya (hg _ _) hpc ?_
  rintro e w1 ⟨rfl, k1⟩
  refine RT ?_
  cases q with
  | true =>
   refine KGO ?_
   refine ⟨(i, j + 1, cur), FR, ⟨hK.trans0 k1, DO, DO, hcl2, ?_, ?_, own_keep0 ho2 k1⟩, DO⟩
   ·dsimp only
    rw [hfs, htk2]; simp
   dsimp only
   rw [← yaM, hdr2, yaM]
  | false =>
   refine KGO ?_
   have hv := hv.keep0 k1
   refine Store.atK hv (i := 0 + i) OM (by rfl) ⟨rfl, by simp, by simp⟩ fun w2 v2 k2 => ?_
   rw [yaU] at v2
   have o2 := zpG (w := w1) lenI (l := cur) (k := i) (j := 0) (x := x) OM (by decide) rfl hBg OM hcm hcl htk (by rw [Nat.mul_one, ybJ]; exact v2)
   refine KGO ?_
   have hil : i < cur.length := OM
   refine ⟨(i + 1, j + 1, cur.set i x), FR, ⟨hK.trans' (k1.of_none.trans' k2), DO, DO, by dsimp only; rw [List.length_set]; exact hcl2, ?_, ?_, ?_⟩, DO⟩
   ·dsimp only
    rw [hfs, ← htk2, yad (by rw [ybm]; exact hil), List.getElem_set_self, List.take_set_of_le (yag _)]
    simp
   ·dsimp only
    rw [List.drop_set_of_lt OM, ← yaM, hdr2, yaM]
   dsimp only
   unfold OwnI
   rw [ybm]
   exact o2
 have hjl : j = l.length := OM
 subst hjl
 rw [yaD] at htk2
 have hil : i < cur.length := OM
 refine KGO ?_
 rw [if_neg (by omega : ¬ i = cap0)]
 refine RunN.clearK (s := 1) (n := l.length - i) Tryz.underlying40 infoI rfl (by intro u hu; simp [Value.cells] at hu; first | (subst hu; rfl) | (rcases hu with rfl | rfl <;> rfl)) hv (by first | (rw [hcl]; omega) | omega) fun w3 zs hzl v3 k3 => ?_
 refine KGO ?_
 have hle : (l.filter fun x => !p x).length = i := by rw [← htk2, yar]; omega
 rw [if_neg (by omega : ¬ 0 = cap0), ybb, ybb]
 refine ⟨_, rfl, ?_, ((hK.trans' k3).mono fun q _ hq => by have hq : q = gb := hq; rw [hq]; rfl), rfl⟩
 have htA : cells.take (0 + i * 1) = (l.filter fun x => !p x).flatMap inC := by
  rw [yaU, ← htk2, ← flatK_take inC 1 lenI, ← htk, ybz, yaJ OM]
 have hlA : ((l.filter fun x => !p x).flatMap inC).length = i * 1 := by rw [flatK_len inC 1 lenI, hle]
 first | rw [htA] at v3 | (rw [show 0 + i * 1 = 0 + i by omega] at htA; rw [htA] at v3)
 unfold OwnI
 rw [hle]
 refine zbY hBg v3 OM hcm2 ?_ ?_ hlA
 ·rw [yaa, yaa, hlA, hzl, yau]; omega
 rw [yap, ← hlA, yaZ]
structure IxM (w : World) (b : Nat) (sv dv : Sl) (l : List (Sv × Sgm)) (x : Ix) : Prop where
 var : VarK w b 84 [.slice sv.a sv.n sv.c, .slice dv.a dv.n dv.c]
 sg : OwnSg w (b + 1) sv.v l
 dd : OwnI w (b + 1) dv.v x.dead
 el : ∀ p ∈ l, OwS w (b + 1) p.1 p.2
 eq : l.map (·.2) = x.segs
 ap : ∀ p ∈ l, Apart p.1.d.v dv.v
def fpX (b : Nat) (sv dv : Sl) (l : List (Sv × Sgm)) (k : Nat) : Prop := k = b ∨ sv.v.ownBlock = some k ∨ dv.v.ownBlock = some k ∨ ∃ p ∈ l, p.1.t.v.ownBlock = some k ∨ p.1.d.v.ownBlock = some k
theorem IxM.keepF {w w' : World} {b : Nat} {sv dv : Sl} {l : List (Sv × Sgm)} {x : Ix} {c : Nat → Prop} (h : IxM w b sv dv l x) (k : Kp w w' c) (hc : ∀ q, fpX b sv dv l q → ¬ c q) : IxM w' b sv dv l x :=
  ⟨h.var.keep k (hc b (.inl rfl)), own_keep h.sg k fun q e => hc q (.inr (.inl e)), own_keep h.dd k fun q e => hc q (.inr (.inr (.inl e))),
   fun p hp => ⟨own_keep (h.el p hp).t k fun q e => hc q (.inr (.inr (.inr ⟨p, hp, .inl e⟩))), own_keep (h.el p hp).d k fun q e => hc q (.inr (.inr (.inr ⟨p, hp, .inr e⟩)))⟩, h.eq, h.ap⟩
theorem IxM.keep0 {w w' : World} {b : Nat} {sv dv : Sl} {l : List (Sv × Sgm)} {x : Ix} (h : IxM w b sv dv l x) (k : Kp w w' n_) : IxM w' b sv dv l x := h.keepF k fun _ _ => id
theorem IxM.rd {w : World} {b : Nat} {sv dv : Sl} {l : List (Sv × Sgm)} {x : Ix} (h : IxM w b sv dv l x) {p : Sv × Sgm} (hp : p ∈ l) : RdS w p.1 p.2 := (h.el p hp).rd
structure IxV (w : World) (b : Nat) (sv dv : Sl) (l : List (Sv × Sgm)) : Prop where
 var : VarK w b 84 [.slice sv.a sv.n sv.c, .slice dv.a dv.n dv.c]
 sg : RowO w sv.v sgP l
 el : ∀ p ∈ l, RdS w p.1 p.2
theorem IxV.keep0 {w w' : World} {b : Nat} {sv dv : Sl} {l : List (Sv × Sgm)} (h : IxV w b sv dv l) (k : Kp w w' n_) : IxV w' b sv dv l := ⟨h.var.keep0 k, h.sg.keep k, fun p hp => (h.el p hp).keep k⟩
theorem IxM.v {w : World} {b : Nat} {sv dv : Sl} {l : List (Sv × Sgm)} {x : Ix} (h : IxM w b sv dv l x) : IxV w b sv dv l := ⟨h.var, own_rowO h.sg, fun p hp => h.rd hp⟩
structure IxB (x : Ix) : Prop where
 ok : IxOk x
 n : x.segs.length ≤ 1000
 d : x.dead.length ≤ 1000
 b : ∀ s ∈ x.segs, Bd s 1000 20000 20000
structure IxC (x : Ix) : Prop where
 asc : ∀ s ∈ x.segs, AscB ltI s.docs
 n : x.segs.length ≤ 1000
 dl : ∀ s ∈ x.segs, s.docs.length ≤ 1000000
theorem IxB.c {x : Ix} (h : IxB x) : IxC x := ⟨fun s hs => (zah.1 (h.ok.rt s hs)).1.1, h.n, fun s hs => by have := (h.b s hs).d; omega⟩
section
variable {w : World} {b : Nat} {sv dv : Sl} {l : List (Sv × Sgm)} {x : Ix}
theorem zgf (h : Sv) (s : Sgm) (d : Int) (hr : RdS w h s) (hs : AscB ltI s.docs) (hl : s.docs.length ≤ 1000000) : Calls Tryz.prog 135 #[.agg (sgC h).toArray, .int .i64 d] w fun e w' => e = .returned (.bool (decide (d ∈ s.docs))) ∧ Kp w w' n_ := by
 refine zaa (args := [.agg (sgC h).toArray, .int .i64 d]) Tryz.func135 rfl NL ?_; refine GW ?_
 obtain ⟨a_b3, v_b3, k_w1, z_w1, r_w1⟩ := new5 w 65 (sgC h)
 generalize w.alloc (.cells (List.toArray (sgC h)) 65) = w1 at *
 generalize hs_b3 : w.heap.size = b3 at *
 refine KGO ?_
 refine Ya (Tryz.call81 _ _) (bs_I (w := w1) s.docs d (hr.d.keep k_w1) OM) ?_
 rintro e w2 ⟨k, q, rfl, hq, k2⟩
 refine RT ?_
 refine KGO ?_
 exact ⟨by rw [hq hs], k_w1.trans0 k2⟩
theorem zkg (hv : VarK w b 84 [.slice sv.a sv.n sv.c, .slice dv.a dv.n dv.c]) {dead : List Int} (hd : RowI w dv.v dead) (ha : AscB ltI dead) (hl : dead.length ≤ 1000000) (d : Int) : Calls Tryz.prog 78 #[.pointer (some ⟨b, 0, none⟩), .int .i64 d] w fun e w' => e = .returned (.bool (decide (d ∈ dead))) ∧ Kp w w' n_ := by
 have hat := hv.at
 refine zaa (args := [.pointer (some ⟨b, 0, none⟩), .int .i64 d]) Tryz.func78 rfl NL ?_; refine GW ?_
 refine KGO ?_
 refine Ya (Tryz.call81 _ _) (bs_I (w := w) dead d hd OM) ?_
 rintro e w2 ⟨k, q, rfl, hq, k2⟩
 refine RT ?_
 refine KGO ?_
 exact ⟨by rw [hq ha], k2⟩
theorem zre {bd : Nat} (q : Sv × Sgm) (d : Int) (hr : RdS w q.1 q.2) (hs : AscB ltI q.2.docs) (hl : q.2.docs.length ≤ 1000000) (hd : VarK w bd 3 [.int .i64 d]) : Calls Tryz.prog 134 #[.agg (sgP q).toArray, .pointer (some ⟨bd, 0, none⟩)] w fun e w' => e = .returned (.bool (decide (d ∈ q.2.docs))) ∧ Kp w w' n_ := by
 have hda := hd.at
 refine zaa (args := [.agg (sgP q).toArray, .pointer (some ⟨bd, 0, none⟩)]) Tryz.func134 rfl NL ?_; refine GW ?_
 obtain ⟨a_b3, v_b3, k_w1, z_w1, r_w1⟩ := new5 w 65 (sgC q.1)
 generalize w.alloc (.cells (List.toArray (sgC q.1)) 65) = w1 at *
 generalize hs_b3 : w.heap.size = b3 at *
 have hd1 := (hd.keep0 k_w1).at
 refine KGO ?_
 refine Ya (Tryz.call135 _ _) (zgf (w := w1) q.1 q.2 d (hr.keep k_w1) hs hl) ?_
 rintro e w2 ⟨rfl, k2⟩
 refine RT ?_
 refine KGO ?_
 exact ⟨rfl, k_w1.trans0 k2⟩
def findI (x : Ix) (d : Int) : Int := idxP (fun s => decide (d ∈ s.docs)) x.segs
theorem zjX (h : IxV w b sv dv l) (he : l.map (·.2) = x.segs) (hb : IxC x) (d : Int) : Calls Tryz.prog 83 #[.pointer (some ⟨b, 0, none⟩), .int .i64 d] w fun e w' => e = .returned (.int .i64 (findI x d)) ∧ Kp w w' n_ := by
 refine zaa (args := [.pointer (some ⟨b, 0, none⟩), .int .i64 d]) Tryz.func83 rfl NL ?_; refine GW ?_
 obtain ⟨a_b3, v_b3, k_w1, z_w1, r_w1⟩ := new5 w 3 ([.int .i64 d])
 generalize w.alloc (.cells (List.toArray ([.int .i64 d])) 3) = w1 at *
 generalize hs_b3 : w.heap.size = b3 at *
 have h1 := h.keep0 k_w1
 have ha := h1.var.at
 have hll : l.length = x.segs.length := by rw [← he, yaf]
 refine KGO ?_
 refine Ya (Tryz.call95 _ _) (znK (w := w1) (v := sv.v) l 134 (.pointer (some ⟨b3, 0, none⟩)) (fun q => decide (d ∈ q.2.docs)) h1.sg (by have := hb.n; omega) Tryz.call134 (fun q hq u k => zre (w := u) q d ((h1.el q hq).keep k) (hb.asc q.2 (by rw [← he]; exact yax hq)) (hb.dl q.2 (by rw [← he]; exact yax hq)) (v_b3.keep0 k))) ?_
 rintro e w2 ⟨rfl, k2⟩
 refine RT ?_
 refine KGO ?_
 refine ⟨?_, k_w1.trans0 k2⟩
 rw [zlU (fun q : Sv × Sgm => q.2) (fun s => decide (d ∈ s.docs)), he]; rfl
theorem ziO (x : Ix) (d : Int) : 0 ≤ findI x d ↔ memB x.segs d = true := by
 unfold findI memB
 rw [zfb]
theorem zpi (h : IxM w b sv dv l x) (hb : IxB x) (d : Int) : Calls Tryz.prog 80 #[.pointer (some ⟨b, 0, none⟩), .int .i64 d] w fun e w' => e = .returned (.bool (zco x d)) ∧ Kp w w' n_ := by
 refine zaa (args := [.pointer (some ⟨b, 0, none⟩), .int .i64 d]) Tryz.func80 rfl NL ?_; refine GW ?_
 refine Ya (Tryz.call83 _ _) (zjX h.v h.eq hb.c d) ?_
 rintro e w1 ⟨rfl, k1⟩
 have h1 := h.keep0 k1
 refine RT ?_
 unfold zco
 have hf := ziO x d
 cases hm : memB x.segs d with
 | false =>
  have : ¬ 0 ≤ findI x d := fun e => by rw [hf.1 e] at hm; cases hm
  refine KGO ?_
  exact ⟨rfl, k1⟩
 | true =>
  have := hf.2 hm
  refine KGO ?_
  refine Ya (Tryz.call78 _ _) (zkg (w := w1) h1.var (own_rowO h1.dd) hb.ok.da (by have := hb.d; omega) d) ?_
  rintro e w2 ⟨rfl, k2⟩
  refine RT ?_
  refine KGO ?_
  exact ⟨rfl, k1.trans0 k2⟩
theorem zlf (w : World) : (Instr.build 84 #[]).run Tryz.prog w = .ok (.agg #[.slice none 0 0, .slice none 0 0]) w := by
 simp [Instr.build, go_sem, Tryz.runUnderlying84]
theorem zuf : Calls Tryz.prog 16 #[] w fun e w' => e = .returned (.pointer (some ⟨w.heap.size, 0, none⟩)) ∧ IxM w' w.heap.size ⟨none, 0, 0⟩ ⟨none, 0, 0⟩ [] zeP ∧ Kp w w' n_ := by
 refine zaa (args := []) Tryz.func16 rfl NL ?_; refine GW ?_
 refine Ye (zlf w) ?_
 refine GW ?_
 refine ⟨rfl, ⟨Yk w 84 [.slice none 0 0, .slice none 0 0], World.ownsRow_nil _ _ _ _, World.ownsRow_nil _ _ _ _, (fun p h => by cases h), rfl, (fun p h => by cases h)⟩, (Yb _ _).alloc _⟩
end
section
variable {w : World} {b : Nat} {sv dv : Sl} {l : List (Sv × Sgm)} {x : Ix}
theorem filt_take {l : List Int} {p : Int → Bool} {i : Nat} (h : i < l.length) : (l.take (i + 1)).filter p = (l.take i).filter p ++ if p l[i] = true then [l[i]] else [] := by
 rw [yad h, ybf, ybq]
 split <;> rfl
def outD (x : Ix) (i j : Nat) : List Int := ((x.segs.take i).flatMap fun s => s.docs.filter fun d => !decide (d ∈ x.dead)) ++ ((x.segs.getD i ⟨[], []⟩).docs.take j).filter fun d => !decide (d ∈ x.dead)
theorem zon (x : Ix) (i : Nat) : outD x i 0 = (x.segs.take i).flatMap fun s => s.docs.filter fun d => !decide (d ∈ x.dead) := by
 unfold outD; rw [List.take_zero]; simp
theorem zqc (x : Ix) (i j : Nat) (hn : x.segs.length ≤ 1000) (hb : ∀ s ∈ x.segs, s.docs.length ≤ 1000) : (outD x i j).length ≤ 1001000 := by
 unfold outD
 rw [yaa]
 have h1 : ∀ l : List Sgm, (∀ s ∈ l, s.docs.length ≤ 1000) → (l.flatMap fun s => s.docs.filter fun d => !decide (d ∈ x.dead)).length ≤ l.length * 1000 := by
  intro l
  induction l with
  | nil => intro _; exact yal _
  | cons s l ih =>
   intro h
   have := ih fun t ht => h t (yai _ ht)
   have h2 := h s yae
   have h3 := yaK (fun d => !decide (d ∈ x.dead)) s.docs
   rw [yao, yaa, yab]; omega
 have h2 := h1 (x.segs.take i) fun s hs => hb s (ybo hs)
 have h3 : (x.segs.take i).length ≤ 1000 := by rw [yar]; omega
 have h4 := yaK (fun d => !decide (d ∈ x.dead)) ((x.segs.getD i ⟨[], []⟩).docs.take j)
 have h5 : ((x.segs.getD i ⟨[], []⟩).docs.take j).length ≤ 1000 := by
  rw [yar, List.getD_eq_getElem?_getD]
  cases hq : x.segs[i]? with
  | none => simp
  | some s => have := hb s (List.mem_of_getElem? hq); dsimp only [Option.getD_some]; omega
 omega
theorem zqq (x : Ix) : sortL (outD x x.segs.length 0) = docsX x := by
 rw [zon, yaD]
 unfold docsX
 rw [List.filter_flatMap]
theorem zsk (h : IxM w b sv dv l x) (hb : IxB x) : Calls Tryz.prog 21 #[.pointer (some ⟨b, 0, none⟩)] w fun e w' => ∃ v, e = .returned v ∧ OwnI w' w.heap.size v (docsX x) ∧ Kp w w' n_ := by
 obtain ⟨segs, dead⟩ := x
 have heq := h.eq
 dsimp only at heq
 subst heq
 have hn := hb.n
 have hlen : ∀ i j, (outD ⟨l.map (·.2), dead⟩ i j).length ≤ 1001000 := fun i j => zqc _ i j hb.n fun s hs => (hb.b s hs).d
 dsimp only at hn
 rw [yaf] at hn
 have ha := h.var.at
 obtain ⟨a0, c0, es, hrs⟩ := own_rowO h.sg
 obtain ⟨sa, sn, sc⟩ := sv
 injection es with e1 e2 e3
 dsimp only at e1 e2 e3
 subst e1 e2 e3
 dsimp only at ha hrs
 refine zaa (args := [.pointer (some ⟨b, 0, none⟩)]) Tryz.func21 rfl NL ?_; refine GW ?_
 have kr := Yb w n_
 refine KGO ?_
 refine Yc (ι := Nat × Sl) (fun q => [(0, .pointer (some ⟨b, 0, none⟩)), (3, .slice q.2.a q.2.n q.2.c), (11, .slice sa l.length sc), (12, .int .i64 (l.length : Nat)), (13, .int .i64 (q.1 : Nat))])
  (fun q wr => Kp w wr n_ ∧ q.1 ≤ l.length ∧ OwnI wr w.heap.size q.2.v (outD ⟨l.map (·.2), dead⟩ q.1 0)) (fun q => l.length - q.1) (0, ⟨none, 0, 0⟩) FR ⟨Yb _ _, yal _, World.ownsRow_nil _ _ _ _⟩ ?_
 rintro ⟨i, so⟩ gg wr ⟨hK, hi, ho⟩
 dsimp only at hi ho ⊢
 refine GW ?_
 by_cases hlt : i < l.length
 ·obtain ⟨gb, o, rfl, hgb, hat⟩ := hrs OM
  have hmem : l[i] ∈ l := yak hlt
  have hsi : (l.map (·.2)).getD i ⟨[], []⟩ = l[i].2 := by simp [List.getD, hlt]
  have hri1 := h.rd hmem
  have hbi := (hb.b l[i].2 (yax hmem)).d
  have hsu : outD ⟨l.map (·.2), dead⟩ i l[i].2.docs.length = outD ⟨l.map (·.2), dead⟩ (i + 1) 0 := by
   unfold outD
   dsimp only
   rw [hsi, yaD, ybG, yad (by simpa using hlt), yaC]
   simp
  have hst : ∀ j (hj : j < l[i].2.docs.length), outD ⟨l.map (·.2), dead⟩ i (j + 1) = outD ⟨l.map (·.2), dead⟩ i j ++ if decide (l[i].2.docs[j] ∈ dead) = true then [] else [l[i].2.docs[j]] := fun j hj => by
   unfold outD
   dsimp only
   rw [hsi, filt_take hj, yap]
   congr 2
   by_cases hd : l[i].2.docs[j] ∈ dead <;> simp [hd]
  refine KGO ?_
  refine Yg (vs := sgP l[i]) (by rfl) rfl (zak (by rfl)) ?_
  obtain ⟨a_b5, k_w1, z_w1⟩ := new3 wr 65 (sgP l[i])
  generalize wr.alloc (.cells (List.toArray (sgP l[i])) 65) = w1 at *
  generalize hs_b5 : wr.heap.size = b5 at *
  have ho1 := own_keep0 ho k_w1
  have K1 := hK.trans0 k_w1
  clear hat ho
  generalize hp : l[i] = p at *
  obtain ⟨⟨t, da, dn, dc⟩, s⟩ := p
  obtain ⟨ad, cd, ed, hrd⟩ := hri1.d
  injection ed with e1 e2 e3
  dsimp only at e1 e2 e3 hbi hst hsu hrd
  subst e1 e2 e3
  refine KGO ?_
  refine Yc (ι := Nat × Sl) (fun q => [(0, .pointer (some ⟨b, 0, none⟩)), (3, .slice q.2.a q.2.n q.2.c), (11, .slice (some ⟨gb, o, none⟩) l.length sc), (12, .int .i64 (l.length : Nat)), (13, .int .i64 (i : Nat)), (18, .slice da s.docs.length dc), (19, .int .i64 (s.docs.length : Nat)), (20, .int .i64 (q.1 : Nat))])
   (fun q wk => Kp w wk n_ ∧ q.1 ≤ s.docs.length ∧ OwnI wk w.heap.size q.2.v (outD ⟨l.map (·.2), dead⟩ i q.1)) (fun q => s.docs.length - q.1) (0, so) FR ⟨K1, yal _, ho1⟩ ?_
  rintro ⟨j, sj⟩ gj wk ⟨hKk, hj, hoj⟩
  dsimp only at hj hoj ⊢
  refine GW ?_
  by_cases hjt : j < s.docs.length
  ·obtain ⟨gd, od, rfl, hgd, hatd⟩ := hrd OM
   have hsj := hst j hjt
   have chj := zaJ hatd hjt
   have hl1 := hlen i j
   refine KGO ?_
   refine Ya (Tryz.call78 _ _) (zkg (w := wk) (h.var.keep0 hKk) ((own_rowO h.dd).keep hKk) hb.ok.da (by have := hb.d; exact yaw this OM) s.docs[j]) ?_
   rintro e w3 ⟨rfl, k3⟩
   have K3 := hKk.trans0 k3
   have hoj3 := own_keep0 hoj k3
   refine RT ?_
   by_cases hin : s.docs[j] ∈ dead
   ·rw [decide_eq_true hin] at *
    rw [if_pos rfl, yaA] at hsj
    refine KGO ?_
    exact ⟨(j + 1, sj), FR, ⟨K3, DO, by dsimp only; rw [hsj]; exact hoj3⟩, DO⟩
   rw [decide_eq_false hin] at *
   rw [if_neg (by simp)] at hsj
   obtain ⟨aj, cj, ej⟩ := zab hoj3
   obtain ⟨ja, jn, jc⟩ := sj
   injection ej with e1 e2 e3
   dsimp only at e1 e2 e3
   subst e1 e2 e3
   refine KGO ?_
   refine Ye (bs1I s.docs[j] _) ?_
   obtain ⟨a_b7, v_b7, k_w4, z_w4, r_w4⟩ := new5 w3 3 (inC s.docs[j])
   generalize w3.alloc (.cells (List.toArray (inC s.docs[j])) 3) = w4 at *
   generalize hs_b7 : w3.heap.size = b7 at *
   have ho4 := own_keep0 hoj3 k_w4
   have z4 := (K3.trans0 k_w4).size
   refine KGO ?_
   refine tyI.app1 s.docs[j] ho4 OM a_b7 OM OM fun v5 w5 o5 k5 => ?_
   have K5 := zav ho4 k5 (K3.trans0 k_w4) (yag _)
   obtain ⟨a5, c5, rfl⟩ := zab o5
   refine KGO ?_
   exact ⟨(j + 1, ⟨a5, _, c5⟩), FR, ⟨K5, DO, by dsimp only; rw [hsj]; exact o5⟩, DO⟩
  obtain rfl : j = s.docs.length := OM
  refine KGO ?_
  exact ⟨(i + 1, sj), FR, ⟨hKk, DO, by dsimp only; rw [← hsu]; exact hoj⟩, DO⟩
 obtain rfl : i = l.length := OM
 have hl1 := hlen l.length 0
 obtain ⟨aj, cj, ej⟩ := zab ho
 obtain ⟨ja, jn, jc⟩ := so
 injection ej with e1 e2 e3
 dsimp only at e1 e2 e3
 subst e1 e2 e3
 refine KGO ?_
 refine Ya (Tryz.call79 _ _) (srt_I (w := wr) _ ho OM) ?_
 rintro e w2 ⟨rfl, o2, k2⟩
 refine RT ?_
 refine KGO ?_
 refine ⟨_, rfl, ?_, zav ho k2 hK (yag _)⟩
 have e := zqq ⟨l.map (·.2), dead⟩
 dsimp only at e
 rw [yaf] at e
 rw [← e]
 exact o2
end
end Go.Proofs.YtennokckmjcefaaGreatDoor
