/- Helper lemmas that the proved statement rests on; no conditions of their own. -/
import Derived.Test.YtmjeacpoobbjjaaGreatDoorMb2
set_option linter.unusedVariables false
set_option maxHeartbeats 8000000
set_option maxRecDepth 100000
namespace Go.Proofs.YtmjeacpoobbjjaaGreatDoor
open Go.Shelf Go.RowKit Go.Pw Go.Vc Go.Cs Go.Lib Go.Tk Go.Hd Go.Ty Go.Me
theorem zhO (r : List UInt8) : (fieldH r).name.length ≤ r.length ∧ (fieldH r).value.length ≤ r.length := by
 have h1 := zcp (r.take (endH r))
 have h2 := zdK (bareH (r.take (endH r))) [58]
 have h3 := zeL (Lib.cut (bareH (r.take (endH r))) [58]).1 [32, 9]
 have h4 := zcp (r.drop ((Lib.cut (bareH (r.take (endH r))) [58]).1.length + 1))
 rw [List.length_take] at h1
 rw [List.length_drop] at h4
 unfold fieldH
 split
 ·dsimp only; omega
 ·exact ⟨Nat.zero_le _, Nat.zero_le _⟩
theorem zeR : ∀ (k : Nat) (s : List UInt8) (o : Nat), (parF k s o).1.length ≤ k ∧ ∀ f ∈ (parF k s o).1, f.name.length ≤ s.length ∧ f.value.length ≤ s.length
 | 0, s, o => ⟨Nat.le_refl _, fun f h => by cases h⟩
 | k + 1, s, o => by
  unfold parF
  split
  ·exact ⟨Nat.zero_le _, fun f h => by cases h⟩
  ·split
   ·exact ⟨Nat.zero_le _, fun f h => by cases h⟩
   ·have ih := zeR k (s.drop (lenH s)) (o + lenH s)
    have hf := zhO (s.take (lenH s))
    rw [List.length_take] at hf
    refine ⟨by rw [List.length_cons]; omega, fun f h => ?_⟩
    rcases List.mem_cons.1 h with rfl | h
    ·omega
    ·have := ih.2 f h
     rw [List.length_drop] at this
     omega
theorem zcc {l : List Fld} {n v : List UInt8} {M : Nat} (h : ∀ f ∈ l, f.value.length ≤ M) (e : getH l n = some v) : v.length ≤ M := by
 unfold getH at e
 obtain ⟨f, hf, he⟩ := Option.map_eq_some_iff.1 e
 have := h f (List.mem_of_find?_eq_some hf)
 have h2 := zlm (unfoldH f.value) [32, 9]
 have h3 := zdH f.value
 rw [← he]; omega
def ptC (p : Prt) (v : Value) : List Value := [.int .i64 p.up, .int .i64 p.depth, .int .i64 p.from, .int .i64 p.body, .int .i64 p.to, .string (str p.type.kind), .string (str p.type.sub), v, .string (str p.code)]
theorem zjp (a b c d e : Int) (w : World) : (Instr.build 26 [(0, .int .i64 a), (1, .int .i64 b), (2, .int .i64 c), (3, .int .i64 d), (4, .int .i64 e)].toArray).run Tryz.prog w = .ok (.agg #[.int .i64 a, .int .i64 b, .int .i64 c, .int .i64 d, .int .i64 e, .string ⟨#[]⟩, .string ⟨#[]⟩, .slice none 0 0, .string ⟨#[]⟩]) w := by
 simp [Instr.build, go_sem, Tryz.runUnderlying26]
theorem zgI (o : Option (List UInt8)) : getV o = .tuple #[.string (str (o.getD [])), .bool o.isSome] := by cases o <;> rfl
theorem zdJ {P : Program} {t T : TypeId} {w : World} {b n : Nat} {cs : List Value} (vs pre mid post : List Value) {K : World → Prop} (h : VarK w b T cs) (hcs : cs = pre ++ mid ++ post) (hn : n = pre.length) (hs : sizeOfT P t = some vs.length) (hl : vs.length = mid.length) (hf : ∀ v ∈ vs, Flat v)
  (k : ∀ w', VarK w' b T (pre ++ vs ++ post) → Kp w w' (one_ b) → K w') : Store P t ⟨b, 0 + n, none⟩ (.agg vs.toArray) w K := by
 subst hcs; subst hn
 refine Store.agg vs hs hf (fun j hj => ⟨_, h.at (pre.length + j) _ (List.getElem?_eq_getElem (by rw [List.length_append, List.length_append]; omega)) |> fun e => by rw [← Nat.add_assoc] at e; exact e⟩) (fun j => h.frozen j) (k _ (by rw [Nat.zero_add]; exact VarK.setMid vs pre mid post w h hl) (zaX vs _ w))
section
variable {w : World}
theorem zeX (s : List UInt8) (up depth : Int) (a e : Nat) (g : Bool) (hT : Tabs w) (hm : MaxL w) (hE : ErrL w) (hs : s.length ≤ 900000) (ha : a ≤ e) (he : e ≤ s.length) :
  Calls Tryz.prog 33 #[.string (str s), .int .i64 up, .int .i64 depth, .int .i64 (a : Nat), .int .i64 (e : Nat), .bool g] w fun x w' => ∃ v, x = .returned (.agg (ptC (readM s up depth a e g) v).toArray) ∧ OwnPa w' w.heap.size v (readM s up depth a e g).type.params ∧ Kp w w' n_ := by
 have hz := zae s
 obtain ⟨u, hu⟩ : ∃ u, u = (s.take e).drop a := ⟨_, rfl⟩
 have hul : u.length = e - a := by rw [hu, List.length_drop, List.length_take]; omega
 have hrd : readM s up depth a e g = ⟨up, depth, a, a + (parH u).2, e, (match getH (parH u).1 sCt with | some v => (typeC v).1 | none => if g = true then ⟨sMessage, sRfc, []⟩ else (typeC []).1), codeM ((getH (parH u).1 sCte).getD [])⟩ := by rw [hu]; rfl
 have hpl := zeR u.length u 0
 have hple := zje u
 refine zaa (args := [.string (str s), .int .i64 up, .int .i64 depth, .int .i64 (a : Nat), .int .i64 (e : Nat), .bool g]) Tryz.func33 rfl NL ?_; refine GW ?_
 obtain ⟨a_r1, v_r1, k_w1, z_w1, r_w1⟩ := new5 w 26 ([.int .i64 0, .int .i64 0, .int .i64 0, .int .i64 0, .int .i64 0, .string ⟨#[]⟩, .string ⟨#[]⟩, .slice none 0 0, .string ⟨#[]⟩])
 generalize w.alloc (.cells (List.toArray ([.int .i64 0, .int .i64 0, .int .i64 0, .int .i64 0, .int .i64 0, .string ⟨#[]⟩, .string ⟨#[]⟩, .slice none 0 0, .string ⟨#[]⟩])) 26) = w1 at *
 generalize hs_r1 : w.heap.size = r1 at *
 refine KGO ?_
 rw [zbc, ← hu]
 refine CallS.of (Tryz.call28 _ _) (zhe (w := w1) u (hm.keep k_w1) (by omega)) ?_
 rintro x w2 ⟨v, rfl, ov, k2⟩
 have K2 := k_w1.trans0 k2
 have hpd : (parF u.length u 0).1 = (parH u).1 := rfl
 rw [hpd] at hpl
 generalize parH u = P at *
 obtain ⟨l, nb⟩ := P
 obtain ⟨al, cl, rfl⟩ := zad ov
 dsimp only at hpl hple hrd ov ⊢
 have vr2 := v_r1.keep0 k2
 refine RT ?_
 refine KGO ?_
 rw [show ((a : Nat) : Int) + ((nb : Nat) : Int) = ((a + nb : Nat) : Int) from rfl]
 refine RunV.of (zjp _ _ _ _ _ _) ?_
 refine KGO ?_
 obtain ⟨a_b15, v_b15, k_w3, z_w3, r_w3⟩ := new5 w2 26 ([.int .i64 0, .int .i64 0, .int .i64 0, .int .i64 0, .int .i64 0, .string ⟨#[]⟩, .string ⟨#[]⟩, .slice none 0 0, .string ⟨#[]⟩])
 generalize w2.alloc (.cells (List.toArray ([.int .i64 0, .int .i64 0, .int .i64 0, .int .i64 0, .int .i64 0, .string ⟨#[]⟩, .string ⟨#[]⟩, .slice none 0 0, .string ⟨#[]⟩])) 26) = w3 at *
 generalize hs_b15 : w2.heap.size = b15 at *
 refine KGO ?_
 refine SVK (ptC ⟨up, depth, a, ((a + nb : Nat) : Int), e, ⟨[], [], []⟩, []⟩ (.slice none 0 0)) v_b15 fun w4 v4 k4 => ?_
 have K4 := zab (K2.trans0 k_w3) k4 (by have := K2.size; omega)
 have hb15 : w.heap.size ≤ b15 ∧ r1 < b15 := by have := K2.size; have := k2.size; omega
 have hb1 : w.heap.size ≤ r1 := by omega
 have ol4 := zaf (zai ov k_w3) k4 fun q hq e => by
  obtain ⟨_, _, _, _, h4⟩ := zah ov hq
  have e : q = b15 := e
  omega
 have hol15 : ∀ q, (Value.slice al l.length cl).ownBlock = some q → ¬ one_ b15 q := fun q hq e => by
  obtain ⟨_, _, _, _, h4⟩ := zah ov hq
  have e : q = b15 := e
  omega
 have vr4 := (vr2.keep0 k_w3).keep k4 (fun e => by have e : r1 = b15 := e; omega)
 refine KGO ?_
 have hrl : RowO w4 (.slice al l.length cl) fdC l := zap ol4
 have hsmf : ∀ f ∈ l, SmF f := fun f hf => by have := hpl.2 f hf; exact ⟨by omega, by omega⟩
 refine CallS.of (Tryz.call29 _ _) (zhq (w := w4) l sCt hrl (hm.keep K4) (by omega) hsmf (by decide)) ?_
 rintro x w5 ⟨rfl, k5⟩
 have K5 := K4.trans0 k5
 have v5 := v4.keep0 k5
 have vr5 := vr4.keep0 k5
 cases hg : getH l sCt with
 | none =>
  rw [hg] at hrd
  dsimp only at hrd
  unfold getV
  dsimp only
  refine RT ?_
  cases g
  ·rw [if_neg (by simp)] at hrd
   refine KGO ?_
   refine CallS.of (Tryz.call49 _ _) (zhg (w := w5) [] (hT.keep K5) (hm.keep K5) (hE.keep K5) (by simp)) ?_
   rintro x w6 ⟨v6, rfl, o6, k6⟩
   have K6 := K5.trans0 k6
   obtain ⟨a6, c6, rfl⟩ := zad o6
   obtain ⟨T, hTe⟩ : ∃ T, T = (typeC []).1 := ⟨_, rfl⟩
   rw [← hTe] at hrd o6 ⊢
   refine RT ?_
   refine KGO ?_
   refine zdJ (tyV T (.slice a6 T.params.length c6)) [.int .i64 up, .int .i64 depth, .int .i64 (a : Nat), .int .i64 ((a + nb : Nat) : Int), .int .i64 (e : Nat)] [.string ⟨#[]⟩, .string ⟨#[]⟩, .slice none 0 0] [.string ⟨#[]⟩] (v5.keep0 k6) (by rfl) rfl (by rfl) rfl (zaB (by rfl)) fun w7 v7 k7 => ?_
   have v7 : VarK w7 b15 26 (ptC ⟨up, depth, a, ((a + nb : Nat) : Int), e, T, []⟩ (.slice a6 T.params.length c6)) := v7
   have vr7 := (vr5.keep0 k6).keep k7 (fun e => by have e : r1 = b15 := e; omega)
   have K7 := zab K6 k7 hb15.1
   have o7 : OwnPa w7 w.heap.size (.slice a6 T.params.length c6) T.params := zan (zaf o6 k7 fun q hq e => by
    obtain ⟨_, _, _, h3, _⟩ := zah o6 hq
    have e : q = b15 := e
    have := (v5.lt)
    omega) (by have := K5.size; omega)
   refine KGO ?_
   have ol7 := zaf (zai (zai ol4 k5) k6) k7 hol15
   have hrl7 : RowO w7 (.slice al l.length cl) fdC l := zap ol7
   refine CallS.of (Tryz.call29 _ _) (zhq (w := w7) l sCte hrl7 (hm.keep K7) (by omega) hsmf (by decide)) ?_
   rintro x w8 ⟨rfl, k8⟩
   rw [zgI]
   obtain ⟨cv, hcv⟩ : ∃ cv, cv = (getH l sCte).getD [] := ⟨_, rfl⟩
   have hcvl : cv.length ≤ 900000 := by
    rw [hcv]
    cases hgc : getH l sCte with
    | none => exact Nat.zero_le _
    | some c => have := zcc (M := u.length) (fun f hf => (hpl.2 f hf).2) hgc; show c.length ≤ _; omega
   rw [← hcv] at hrd ⊢
   have hsl := zbm cv
   refine RT ?_
   refine KGO ?_
   refine CallS.of (Tryz.call51 _ _) (zeP cv (by omega) w8) ?_
   rintro x w9 ⟨v9, rfl, o9, k9⟩
   obtain ⟨a9, c9, rfl⟩ := zad o9
   refine RT ?_
   refine KGO ?_
   refine CallS.of (Tryz.call50 _ _) (zeM (w := w9) (scanT cv) (zap o9) (by omega)) ?_
   rintro x wA ⟨vA, rfl, oA, kA⟩
   obtain ⟨aA, cA, rfl⟩ := zad oA
   have k7A := (k8.trans0 k9).trans0 kA
   have KA := (K7).trans0 k7A
   have vA15 := (v7).keep0 k7A
   have vrA := (vr7).keep0 k7A
   have otA := zai o7 k7A
   have hcd : codeM cv = match bareT (scanT cv) with | [] => [] | t :: _ => if t.1 = 1 then smallH t.2 else [] := rfl
   have hbn : ∀ t ∈ bareT (scanT cv), t.2.length ≤ 900000 := fun t ht => by
    have h1 := zeU (List.mem_filter.1 ht).1
    omega
   have hbl : (bareT (scanT cv)).length ≤ (scanT cv).length := List.length_filter_le _ _
   generalize bareT (scanT cv) = BB at *
   have hTr : ∀ q, ((.slice a6 T.params.length c6) : Value).ownBlock = some q → ¬ one_ r1 q := fun q hq e => by
    obtain ⟨cs, z, h1, _⟩ := zah otA hq
    have e : q = r1 := e
    subst e
    have h2 : wA.heap[q]? = _ := vrA
    rw [h1] at h2
    injection h2 with h2
    injection h2 with _ h2
    exact absurd h2 (by decide)
   refine RT ?_
   cases BB with
   | nil =>
    rw [hcd] at hrd
    dsimp only at hrd
    have aZ0 := vA15.at
    have qZ0 := Kp.refl wA n_
    refine KGO ?_
    have aZ := (vA15).at
    have qZ := Kp.refl wA n_
    refine KGO ?_
    refine SVK (ptC ⟨up, depth, a, ((a + nb : Nat) : Int), e, T, ([] : List UInt8)⟩ (.slice a6 T.params.length c6)) vrA fun wz vz kz => ?_
    have az := vz.at
    have qz := Kp.refl wz n_
    refine KGO ?_
    refine GW ?_
    refine ⟨_, by rw [hrd]; rfl, ?_, zab KA kz hb1⟩
    rw [hrd]
    exact zan (zaf otA kz fun q hq e => hTr q hq e) (by omega)
   | cons t0 rest =>
    have ht0 := hbn t0 List.mem_cons_self
    have hln : (t0 :: rest).length = rest.length + 1 := rfl
    obtain ⟨_, _, hne, hrr⟩ := zap (cells := tkC) oA
    injection hne with e1 e2 e3
    subst e1; subst e3
    obtain ⟨gb, ob, rfl, hgb, hat⟩ := hrr (by simp)
    have hat0 : At wA gb ob [.int .i64 (t0.1 : Nat), .string (str t0.2)] := at_hd (c := tkC) (x := t0) hat
    clear hat hrr
    have qZ0 := Kp.refl wA n_
    rw [hcd] at hrd
    dsimp only at hrd
    by_cases h1 : t0.1 = 1
    ·rw [if_pos h1] at hrd
     refine KGO ?_
     rw [show ob + 0 * 2 + 1 = ob + 1 by omega]
     refine Load.one (by rfl) (hat0 1 _ rfl) ?_
     refine KGO ?_
     refine CallS.of (Tryz.call52 _ _) (zeB t0.2 (by omega) wA) ?_
     rintro x wB ⟨rfl, kB⟩
     have KB := KA.trans0 kB
     refine RT ?_
     refine KGO ?_
     refine Store.cellK (i := 8) (vA15.keep0 kB) (by simp [ptC]) (by rfl) ⟨rfl, by simp, by simp⟩ fun wC vC kC => ?_
     have vC : VarK wC b15 26 (ptC ⟨up, depth, a, ((a + nb : Nat) : Int), e, T, smallH t0.2⟩ (.slice a6 T.params.length c6)) := vC
     have vrC := (vrA.keep0 kB).keep kC (fun e => by have e : r1 = b15 := e; omega)
     have KC := zab KB kC hb15.1
     have otC := zaf (zai otA kB) kC (fun q hq e => by
      obtain ⟨cs, z, h1, _⟩ := zah otA hq
      have e : q = b15 := e
      subst e
      have h2 : wA.heap[q]? = _ := vA15
      rw [h1] at h2
      injection h2 with h2
      injection h2 with _ h2
      exact absurd h2 (by decide))
     clear hat0 qZ0
     have aZ := (vC).at
     have qZ := Kp.refl wC n_
     refine KGO ?_
     refine SVK (ptC ⟨up, depth, a, ((a + nb : Nat) : Int), e, T, (smallH t0.2)⟩ (.slice a6 T.params.length c6)) vrC fun wz vz kz => ?_
     have az := vz.at
     have qz := Kp.refl wz n_
     refine KGO ?_
     refine GW ?_
     refine ⟨_, by rw [hrd]; rfl, ?_, zab KC kz hb1⟩
     rw [hrd]
     exact zan (zaf otC kz fun q hq e => hTr q hq e) (by omega)
    ·rw [if_neg h1] at hrd
     have aZ0 := vA15.at
     refine KGO ?_
     have aZ := (vA15).at
     have qZ := Kp.refl wA n_
     refine KGO ?_
     refine SVK (ptC ⟨up, depth, a, ((a + nb : Nat) : Int), e, T, ([] : List UInt8)⟩ (.slice a6 T.params.length c6)) vrA fun wz vz kz => ?_
     have az := vz.at
     have qz := Kp.refl wz n_
     refine KGO ?_
     refine GW ?_
     refine ⟨_, by rw [hrd]; rfl, ?_, zab KA kz hb1⟩
     rw [hrd]
     exact zan (zaf otA kz fun q hq e => hTr q hq e) (by omega)
  ·rw [if_pos rfl] at hrd
   refine KGO ?_
   refine RunV.of (zbX ⟨#[109, 101, 115, 115, 97, 103, 101]⟩ ⟨#[114, 102, 99, 56, 50, 50]⟩ _) ?_
   refine KGO ?_
   refine zdJ (tyV ⟨sMessage, sRfc, []⟩ (.slice none 0 0)) [.int .i64 up, .int .i64 depth, .int .i64 (a : Nat), .int .i64 ((a + nb : Nat) : Int), .int .i64 (e : Nat)] [.string ⟨#[]⟩, .string ⟨#[]⟩, .slice none 0 0] [.string ⟨#[]⟩] v5 (by rfl) rfl (by rfl) rfl (zaB (by rfl)) fun w7 v7 k7 => ?_
   have v7 : VarK w7 b15 26 (ptC ⟨up, depth, a, ((a + nb : Nat) : Int), e, ⟨sMessage, sRfc, []⟩, []⟩ (.slice none 0 0)) := v7
   have vr7 := vr5.keep k7 (fun e => by have e : r1 = b15 := e; omega)
   have K7 := zab K5 k7 hb15.1
   have o7 : OwnPa w7 w.heap.size (.slice none 0 0) [] := World.ownsRow_nil _ _ _ _
   refine KGO ?_
   have ol7 := zaf (zai ol4 k5) k7 hol15
   have hrl7 : RowO w7 (.slice al l.length cl) fdC l := zap ol7
   refine CallS.of (Tryz.call29 _ _) (zhq (w := w7) l sCte hrl7 (hm.keep K7) (by omega) hsmf (by decide)) ?_
   rintro x w8 ⟨rfl, k8⟩
   rw [zgI]
   obtain ⟨cv, hcv⟩ : ∃ cv, cv = (getH l sCte).getD [] := ⟨_, rfl⟩
   have hcvl : cv.length ≤ 900000 := by
    rw [hcv]
    cases hgc : getH l sCte with
    | none => exact Nat.zero_le _
    | some c => have := zcc (M := u.length) (fun f hf => (hpl.2 f hf).2) hgc; show c.length ≤ _; omega
   rw [← hcv] at hrd ⊢
   have hsl := zbm cv
   refine RT ?_
   refine KGO ?_
   refine CallS.of (Tryz.call51 _ _) (zeP cv (by omega) w8) ?_
   rintro x w9 ⟨v9, rfl, o9, k9⟩
   obtain ⟨a9, c9, rfl⟩ := zad o9
   refine RT ?_
   refine KGO ?_
   refine CallS.of (Tryz.call50 _ _) (zeM (w := w9) (scanT cv) (zap o9) (by omega)) ?_
   rintro x wA ⟨vA, rfl, oA, kA⟩
   obtain ⟨aA, cA, rfl⟩ := zad oA
   have k7A := (k8.trans0 k9).trans0 kA
   have KA := (K7).trans0 k7A
   have vA15 := (v7).keep0 k7A
   have vrA := (vr7).keep0 k7A
   have otA := zai o7 k7A
   have hcd : codeM cv = match bareT (scanT cv) with | [] => [] | t :: _ => if t.1 = 1 then smallH t.2 else [] := rfl
   have hbn : ∀ t ∈ bareT (scanT cv), t.2.length ≤ 900000 := fun t ht => by
    have h1 := zeU (List.mem_filter.1 ht).1
    omega
   have hbl : (bareT (scanT cv)).length ≤ (scanT cv).length := List.length_filter_le _ _
   generalize bareT (scanT cv) = BB at *
   have hTr : ∀ q, ((.slice none 0 0) : Value).ownBlock = some q → ¬ one_ r1 q := fun q hq e => by
    obtain ⟨cs, z, h1, _⟩ := zah otA hq
    have e : q = r1 := e
    subst e
    have h2 : wA.heap[q]? = _ := vrA
    rw [h1] at h2
    injection h2 with h2
    injection h2 with _ h2
    exact absurd h2 (by decide)
   refine RT ?_
   cases BB with
   | nil =>
    rw [hcd] at hrd
    dsimp only at hrd
    have aZ0 := vA15.at
    have qZ0 := Kp.refl wA n_
    refine KGO ?_
    have aZ := (vA15).at
    have qZ := Kp.refl wA n_
    refine KGO ?_
    refine SVK (ptC ⟨up, depth, a, ((a + nb : Nat) : Int), e, (⟨sMessage, sRfc, []⟩ : Typ), ([] : List UInt8)⟩ (.slice none 0 0)) vrA fun wz vz kz => ?_
    have az := vz.at
    have qz := Kp.refl wz n_
    refine KGO ?_
    refine GW ?_
    refine ⟨_, by rw [hrd]; rfl, ?_, zab KA kz hb1⟩
    rw [hrd]
    exact zan (zaf otA kz fun q hq e => hTr q hq e) (by omega)
   | cons t0 rest =>
    have ht0 := hbn t0 List.mem_cons_self
    have hln : (t0 :: rest).length = rest.length + 1 := rfl
    obtain ⟨_, _, hne, hrr⟩ := zap (cells := tkC) oA
    injection hne with e1 e2 e3
    subst e1; subst e3
    obtain ⟨gb, ob, rfl, hgb, hat⟩ := hrr (by simp)
    have hat0 : At wA gb ob [.int .i64 (t0.1 : Nat), .string (str t0.2)] := at_hd (c := tkC) (x := t0) hat
    clear hat hrr
    have qZ0 := Kp.refl wA n_
    rw [hcd] at hrd
    dsimp only at hrd
    by_cases h1 : t0.1 = 1
    ·rw [if_pos h1] at hrd
     refine KGO ?_
     rw [show ob + 0 * 2 + 1 = ob + 1 by omega]
     refine Load.one (by rfl) (hat0 1 _ rfl) ?_
     refine KGO ?_
     refine CallS.of (Tryz.call52 _ _) (zeB t0.2 (by omega) wA) ?_
     rintro x wB ⟨rfl, kB⟩
     have KB := KA.trans0 kB
     refine RT ?_
     refine KGO ?_
     refine Store.cellK (i := 8) (vA15.keep0 kB) (by simp [ptC]) (by rfl) ⟨rfl, by simp, by simp⟩ fun wC vC kC => ?_
     have vC : VarK wC b15 26 (ptC ⟨up, depth, a, ((a + nb : Nat) : Int), e, (⟨sMessage, sRfc, []⟩ : Typ), smallH t0.2⟩ (.slice none 0 0)) := vC
     have vrC := (vrA.keep0 kB).keep kC (fun e => by have e : r1 = b15 := e; omega)
     have KC := zab KB kC hb15.1
     have otC := zaf (zai otA kB) kC (fun q hq e => by
      obtain ⟨cs, z, h1, _⟩ := zah otA hq
      have e : q = b15 := e
      subst e
      have h2 : wA.heap[q]? = _ := vA15
      rw [h1] at h2
      injection h2 with h2
      injection h2 with _ h2
      exact absurd h2 (by decide))
     clear hat0 qZ0
     have aZ := (vC).at
     have qZ := Kp.refl wC n_
     refine KGO ?_
     refine SVK (ptC ⟨up, depth, a, ((a + nb : Nat) : Int), e, (⟨sMessage, sRfc, []⟩ : Typ), (smallH t0.2)⟩ (.slice none 0 0)) vrC fun wz vz kz => ?_
     have az := vz.at
     have qz := Kp.refl wz n_
     refine KGO ?_
     refine GW ?_
     refine ⟨_, by rw [hrd]; rfl, ?_, zab KC kz hb1⟩
     rw [hrd]
     exact zan (zaf otC kz fun q hq e => hTr q hq e) (by omega)
    ·rw [if_neg h1] at hrd
     have aZ0 := vA15.at
     refine KGO ?_
     have aZ := (vA15).at
     have qZ := Kp.refl wA n_
     refine KGO ?_
     refine SVK (ptC ⟨up, depth, a, ((a + nb : Nat) : Int), e, (⟨sMessage, sRfc, []⟩ : Typ), ([] : List UInt8)⟩ (.slice none 0 0)) vrA fun wz vz kz => ?_
     have az := vz.at
     have qz := Kp.refl wz n_
     refine KGO ?_
     refine GW ?_
     refine ⟨_, by rw [hrd]; rfl, ?_, zab KA kz hb1⟩
     rw [hrd]
     exact zan (zaf otA kz fun q hq e => hTr q hq e) (by omega)
 | some ct =>
  rw [hg] at hrd
  dsimp only at hrd
  have hcl := zcc (M := u.length) (fun f hf => (hpl.2 f hf).2) hg
  unfold getV
  dsimp only
  refine RT ?_
  refine KGO ?_
  refine CallS.of (Tryz.call49 _ _) (zhg (w := w5) ct (hT.keep K5) (hm.keep K5) (hE.keep K5) (by omega)) ?_
  rintro x w6 ⟨v6, rfl, o6, k6⟩
  have K6 := K5.trans0 k6
  obtain ⟨a6, c6, rfl⟩ := zad o6
  obtain ⟨T, hTe⟩ : ∃ T, T = (typeC ct).1 := ⟨_, rfl⟩
  rw [← hTe] at hrd o6 ⊢
  refine RT ?_
  refine KGO ?_
  refine zdJ (tyV T (.slice a6 T.params.length c6)) [.int .i64 up, .int .i64 depth, .int .i64 (a : Nat), .int .i64 ((a + nb : Nat) : Int), .int .i64 (e : Nat)] [.string ⟨#[]⟩, .string ⟨#[]⟩, .slice none 0 0] [.string ⟨#[]⟩] (v5.keep0 k6) (by rfl) rfl (by rfl) rfl (zaB (by rfl)) fun w7 v7 k7 => ?_
  have v7 : VarK w7 b15 26 (ptC ⟨up, depth, a, ((a + nb : Nat) : Int), e, T, []⟩ (.slice a6 T.params.length c6)) := v7
  have vr7 := (vr5.keep0 k6).keep k7 (fun e => by have e : r1 = b15 := e; omega)
  have K7 := zab K6 k7 hb15.1
  have o7 : OwnPa w7 w.heap.size (.slice a6 T.params.length c6) T.params := zan (zaf o6 k7 fun q hq e => by
   obtain ⟨_, _, _, h3, _⟩ := zah o6 hq
   have e : q = b15 := e
   have := (v5.lt)
   omega) (by have := K5.size; omega)
  refine KGO ?_
  have ol7 := zaf (zai (zai ol4 k5) k6) k7 hol15
  have hrl7 : RowO w7 (.slice al l.length cl) fdC l := zap ol7
  refine CallS.of (Tryz.call29 _ _) (zhq (w := w7) l sCte hrl7 (hm.keep K7) (by omega) hsmf (by decide)) ?_
  rintro x w8 ⟨rfl, k8⟩
  rw [zgI]
  obtain ⟨cv, hcv⟩ : ∃ cv, cv = (getH l sCte).getD [] := ⟨_, rfl⟩
  have hcvl : cv.length ≤ 900000 := by
   rw [hcv]
   cases hgc : getH l sCte with
   | none => exact Nat.zero_le _
   | some c => have := zcc (M := u.length) (fun f hf => (hpl.2 f hf).2) hgc; show c.length ≤ _; omega
  rw [← hcv] at hrd ⊢
  have hsl := zbm cv
  refine RT ?_
  refine KGO ?_
  refine CallS.of (Tryz.call51 _ _) (zeP cv (by omega) w8) ?_
  rintro x w9 ⟨v9, rfl, o9, k9⟩
  obtain ⟨a9, c9, rfl⟩ := zad o9
  refine RT ?_
  refine KGO ?_
  refine CallS.of (Tryz.call50 _ _) (zeM (w := w9) (scanT cv) (zap o9) (by omega)) ?_
  rintro x wA ⟨vA, rfl, oA, kA⟩
  obtain ⟨aA, cA, rfl⟩ := zad oA
  have k7A := (k8.trans0 k9).trans0 kA
  have KA := (K7).trans0 k7A
  have vA15 := (v7).keep0 k7A
  have vrA := (vr7).keep0 k7A
  have otA := zai o7 k7A
  have hcd : codeM cv = match bareT (scanT cv) with | [] => [] | t :: _ => if t.1 = 1 then smallH t.2 else [] := rfl
  have hbn : ∀ t ∈ bareT (scanT cv), t.2.length ≤ 900000 := fun t ht => by
   have h1 := zeU (List.mem_filter.1 ht).1
   omega
  have hbl : (bareT (scanT cv)).length ≤ (scanT cv).length := List.length_filter_le _ _
  generalize bareT (scanT cv) = BB at *
  have hTr : ∀ q, ((.slice a6 T.params.length c6) : Value).ownBlock = some q → ¬ one_ r1 q := fun q hq e => by
   obtain ⟨cs, z, h1, _⟩ := zah otA hq
   have e : q = r1 := e
   subst e
   have h2 : wA.heap[q]? = _ := vrA
   rw [h1] at h2
   injection h2 with h2
   injection h2 with _ h2
   exact absurd h2 (by decide)
  refine RT ?_
  cases BB with
  | nil =>
   rw [hcd] at hrd
   dsimp only at hrd
   have aZ0 := vA15.at
   have qZ0 := Kp.refl wA n_
   refine KGO ?_
   have aZ := (vA15).at
   have qZ := Kp.refl wA n_
   refine KGO ?_
   refine SVK (ptC ⟨up, depth, a, ((a + nb : Nat) : Int), e, T, ([] : List UInt8)⟩ (.slice a6 T.params.length c6)) vrA fun wz vz kz => ?_
   have az := vz.at
   have qz := Kp.refl wz n_
   refine KGO ?_
   refine GW ?_
   refine ⟨_, by rw [hrd]; rfl, ?_, zab KA kz hb1⟩
   rw [hrd]
   exact zan (zaf otA kz fun q hq e => hTr q hq e) (by omega)
  | cons t0 rest =>
   have ht0 := hbn t0 List.mem_cons_self
   have hln : (t0 :: rest).length = rest.length + 1 := rfl
   obtain ⟨_, _, hne, hrr⟩ := zap (cells := tkC) oA
   injection hne with e1 e2 e3
   subst e1; subst e3
   obtain ⟨gb, ob, rfl, hgb, hat⟩ := hrr (by simp)
   have hat0 : At wA gb ob [.int .i64 (t0.1 : Nat), .string (str t0.2)] := at_hd (c := tkC) (x := t0) hat
   clear hat hrr
   have qZ0 := Kp.refl wA n_
   rw [hcd] at hrd
   dsimp only at hrd
   by_cases h1 : t0.1 = 1
   ·rw [if_pos h1] at hrd
    refine KGO ?_
    rw [show ob + 0 * 2 + 1 = ob + 1 by omega]
    refine Load.one (by rfl) (hat0 1 _ rfl) ?_
    refine KGO ?_
    refine CallS.of (Tryz.call52 _ _) (zeB t0.2 (by omega) wA) ?_
    rintro x wB ⟨rfl, kB⟩
    have KB := KA.trans0 kB
    refine RT ?_
    refine KGO ?_
    refine Store.cellK (i := 8) (vA15.keep0 kB) (by simp [ptC]) (by rfl) ⟨rfl, by simp, by simp⟩ fun wC vC kC => ?_
    have vC : VarK wC b15 26 (ptC ⟨up, depth, a, ((a + nb : Nat) : Int), e, T, smallH t0.2⟩ (.slice a6 T.params.length c6)) := vC
    have vrC := (vrA.keep0 kB).keep kC (fun e => by have e : r1 = b15 := e; omega)
    have KC := zab KB kC hb15.1
    have otC := zaf (zai otA kB) kC (fun q hq e => by
     obtain ⟨cs, z, h1, _⟩ := zah otA hq
     have e : q = b15 := e
     subst e
     have h2 : wA.heap[q]? = _ := vA15
     rw [h1] at h2
     injection h2 with h2
     injection h2 with _ h2
     exact absurd h2 (by decide))
    clear hat0 qZ0
    have aZ := (vC).at
    have qZ := Kp.refl wC n_
    refine KGO ?_
    refine SVK (ptC ⟨up, depth, a, ((a + nb : Nat) : Int), e, T, (smallH t0.2)⟩ (.slice a6 T.params.length c6)) vrC fun wz vz kz => ?_
    have az := vz.at
    have qz := Kp.refl wz n_
    refine KGO ?_
    refine GW ?_
    refine ⟨_, by rw [hrd]; rfl, ?_, zab KC kz hb1⟩
    rw [hrd]
    exact zan (zaf otC kz fun q hq e => hTr q hq e) (by omega)
   ·rw [if_neg h1] at hrd
    have aZ0 := vA15.at
    refine KGO ?_
    have aZ := (vA15).at
    have qZ := Kp.refl wA n_
    refine KGO ?_
    refine SVK (ptC ⟨up, depth, a, ((a + nb : Nat) : Int), e, T, ([] : List UInt8)⟩ (.slice a6 T.params.length c6)) vrA fun wz vz kz => ?_
    have az := vz.at
    have qz := Kp.refl wz n_
    refine KGO ?_
    refine GW ?_
    refine ⟨_, by rw [hrd]; rfl, ?_, zab KA kz hb1⟩
    rw [hrd]
    exact zan (zaf otA kz fun q hq e => hTr q hq e) (by omega)
end
def SmT (p : Prt) : Prop := p.type.params.length ≤ 100000000 ∧ ∀ x ∈ p.type.params, x.1.length ≤ 100000000 ∧ x.2.length ≤ 100000000
theorem zlD (o : Option (List UInt8)) : valV o = .tuple #[.string (str (o.getD [])), .bool o.isSome] := by cases o <;> rfl
section
variable {w : World}
theorem zkn {v : Value} (s : List UInt8) (p : Prt) (hm : MaxL w) (hs : s.length ≤ 100000000) (ok : OkP s.length p) (hr : RowO w v paC p.type.params) (hsm : SmT p) :
  Calls Tryz.prog 32 #[.string (str s), .agg (ptC p v).toArray] w fun e w' => ∃ v', e = .returned v' ∧ OwnSp w' w.heap.size v' (innerM s p) ∧ Kp w w' n_ := by
 have hz := zae s
 obtain ⟨up, depth, fr, body, te, ⟨kind, sub, params⟩, code⟩ := p
 have h1 := ok.f0; have h2 := ok.fb; have h3 := ok.bt; have h4 := ok.tn
 dsimp only at h1 h2 h3 h4
 obtain ⟨t, rfl⟩ : ∃ t : Nat, te = t := ⟨te.toNat, by omega⟩
 obtain ⟨bd, rfl⟩ : ∃ b : Nat, body = b := ⟨body.toNat, by omega⟩
 obtain ⟨a, cap, rfl, hr⟩ := hr
 have hin : innerM s ⟨up, depth, fr, bd, t, ⟨kind, sub, params⟩, code⟩ = if 8 ≤ depth then [] else if kind = sMultipart then (if (paramC params sBoundary).getD [] ≠ [] ∧ Lib.contains ((paramC params sBoundary).getD []) [10] = false then bodiesM (s.take t) bd ((paramC params sBoundary).getD []) else [])
  else if kind = sMessage ∧ sub = sRfc ∧ code ≠ sB64 ∧ code ≠ sQp then [(bd, t)] else [] := rfl
 rw [hin]
 clear hin
 have hrw0 : RowO w (.slice a params.length cap) paC params := ⟨a, cap, rfl, hr⟩
 unfold ptC
 dsimp only
 refine zaa (args := [.string (str s), .agg #[.int .i64 up, .int .i64 depth, .int .i64 fr, .int .i64 (bd : Nat), .int .i64 (t : Nat), .string (str kind), .string (str sub), .slice a params.length cap, .string (str code)]]) Tryz.func32 rfl NL ?_; refine GW ?_
 obtain ⟨a_b3, v_b3, k_w1, z_w1, r_w1⟩ := new5 w 26 ([.int .i64 up, .int .i64 depth, .int .i64 fr, .int .i64 (bd : Nat), .int .i64 (t : Nat), .string (str kind), .string (str sub), .slice a params.length cap, .string (str code)])
 generalize w.alloc (.cells (List.toArray ([.int .i64 up, .int .i64 depth, .int .i64 fr, .int .i64 (bd : Nat), .int .i64 (t : Nat), .string (str kind), .string (str sub), .slice a params.length cap, .string (str code)])) 26) = w1 at *
 generalize hs_b3 : w.heap.size = b3 at *
 have a3 := v_b3.at
 have q3 := Kp.refl w1 n_
 by_cases hd : 8 ≤ depth
 ·rw [if_pos hd]
  refine KGO ?_
  exact ⟨_, rfl, World.ownsRow_nil _ _ _ _, k_w1⟩
 rw [if_neg hd]
 by_cases hk : kind = sMultipart
 ·subst hk
  rw [if_pos rfl]
  refine KGO ?_
  refine Load.one (by rfl) (a3 7 _ rfl) ?_
  refine KGO ?_
  have hrw : RowO w1 (.slice a params.length cap) paC params := hrw0.keep k_w1
  refine CallS.of (Tryz.call46 _ _) (zks (w := w1) params sBoundary hrw hsm.1 (fun x hx => (hsm.2 x hx).1) (by decide)) ?_
  rintro e w2 ⟨rfl, k2⟩
  rw [zlD]
  have K2 := k_w1.trans0 k2
  obtain ⟨b, hb⟩ : ∃ b, b = (paramC params sBoundary).getD [] := ⟨_, rfl⟩
  have hbl : b.length ≤ 100000000 := by
   rw [hb]
   unfold paramC
   cases hf : params.find? fun x => smallH x.1 == smallH sBoundary with
   | none => exact Nat.zero_le _
   | some x => exact (hsm.2 x (List.mem_of_find?_eq_some hf)).2
  rw [← hb]
  refine RT ?_
  cases b with
  | nil =>
   rw [if_neg (by simp)]
   refine KGO ?_
   exact ⟨_, rfl, World.ownsRow_nil _ _ _ _, K2⟩
  | cons c r =>
   refine KGO ?_
   rw [decide_eq_false zbQ]
   refine KGO ?_
   refine CallS.of (Tryz.call47 _ _) (zhB (str (c :: r)) ⟨#[10]⟩ w2 (hm.keep K2) (by rw [zae]; omega)) ?_
   rintro e w3 ⟨rfl, rfl⟩
   rw [L_str, show L ⟨#[10]⟩ = [10] from rfl]
   refine RT ?_
   cases hc : Lib.contains (c :: r) [10]
   ·rw [if_pos ⟨by simp, rfl⟩]
    have a4 : At w2 b3 0 [.int .i64 up, .int .i64 depth, .int .i64 fr, .int .i64 (bd : Nat), .int .i64 (t : Nat), .string (str sMultipart), .string (str sub), .slice a params.length cap, .string (str code)] := (v_b3.keep0 k2).at
    have q4 := Kp.refl w2 n_
    clear a3 q3
    refine KGO ?_
    rw [zaV]
    have hstl : (s.take t).length = t := by rw [List.length_take]; omega
    refine CallS.of (Tryz.call48 _ _) (zjh (w := w2.drew) (s.take t) (c :: r) bd (by omega) hbl (by omega)) ?_
    rintro e w4 ⟨v4, rfl, o4, k4⟩
    obtain ⟨a4', c4', rfl⟩ := zad o4
    have kd := (Kp.refl w2 n_).drew
    refine RT ?_
    exact ⟨_, rfl, zan o4 (by have := (K2.trans0 kd).size; omega), (K2.trans0 kd).trans0 k4⟩
   ·rw [if_neg (by simp)]
    refine KGO ?_
    exact ⟨_, rfl, World.ownsRow_nil _ _ _ _, K2⟩
 ·rw [if_neg hk]
  have e1 : decide (str kind = ⟨#[109, 117, 108, 116, 105, 112, 97, 114, 116]⟩) = false := decide_eq_false (fun e => hk (zaD.1 (e.trans (show _ = str sMultipart from rfl))))
  refine KGO ?_
  rw [e1]
  refine KGO ?_
  by_cases h5 : kind = sMessage
  ·subst h5
   refine KGO ?_
   refine Load.one (by rfl) (a3 6 _ rfl) ?_
   by_cases h6 : sub = sRfc
   ·subst h6
    refine KGO ?_
    by_cases h7 : code = sB64
    ·subst h7
     rw [if_neg (fun e => e.2.2.1 rfl)]
     refine KGO ?_
     exact ⟨_, rfl, World.ownsRow_nil _ _ _ _, k_w1⟩
    ·have e7 : decide (str code = ⟨#[98, 97, 115, 101, 54, 52]⟩) = false := decide_eq_false (fun e => h7 (zaD.1 (e.trans (show _ = str sB64 from rfl))))
     rw [e7]
     refine KGO ?_
     by_cases h8 : code = sQp
     ·subst h8
      rw [if_neg (fun e => e.2.2.2 rfl)]
      refine KGO ?_
      exact ⟨_, rfl, World.ownsRow_nil _ _ _ _, k_w1⟩
     ·have e8 : decide (str code = ⟨#[113, 117, 111, 116, 101, 100, 45, 112, 114, 105, 110, 116, 97, 98, 108, 101]⟩) = false := decide_eq_false (fun e => h8 (zaD.1 (e.trans (show _ = str sQp from rfl))))
      rw [if_pos ⟨rfl, rfl, h7, h8⟩]
      rw [e8]
      refine KGO ?_
      refine RunV.of (zaY (bd : Nat) (t : Nat) _) ?_
      refine KGO ?_
      refine RunV.of (bs1Spn (bd, t) _) ?_
      obtain ⟨a_b9, v_b9, k_w2, z_w2, r_w2⟩ := new5 w1 55 (spnC (bd, t))
      generalize w1.alloc (.cells (List.toArray (spnC (bd, t))) 55) = w2 at *
      generalize hs_b9 : w1.heap.size = b9 at *
      refine KGO ?_
      exact ⟨_, rfl, zih (n := 1) (cap := 1) (g := b9) (cells := spnC (bd, t)) (by omega) v_b9 (Nat.le_refl _) (by decide) rfl rfl rfl, k_w1.trans0 k_w2⟩
   ·rw [if_neg (fun e => h6 e.2.1)]
    refine KGO ?_
    rw [decide_eq_false (fun e => h6 (zaD.1 (e.trans (show _ = str sRfc from rfl))))]
    refine KGO ?_
    exact ⟨_, rfl, World.ownsRow_nil _ _ _ _, k_w1⟩
  ·rw [if_neg (fun e => h5 e.1), decide_eq_false (fun e => h5 (zaD.1 (e.trans (show _ = str sMessage from rfl))))]
   refine KGO ?_
   exact ⟨_, rfl, World.ownsRow_nil _ _ _ _, k_w1⟩
end
theorem zeu (n s : List UInt8) : (meantC n s).length ≤ 4 * s.length := by
 unfold meantC decodeS
 split
 ·have := zee s; omega
 ·split
  ·have := zee s; omega
  ·have := (zhi (s.map (sgn (Cs.kind n)))).2; rw [List.length_map] at this; exact this
theorem zfs {p : PM} {f : FM} {n : List UInt8} {M : Nat} (h : ∀ x ∈ p, x.2.length ≤ M) : ∀ (m i : Nat), (sectC p f n m i).length ≤ m * M
 | 0, i => by simp [sectC]
 | m + 1, i => by
  rw [zdo]
  cases hg : getC p f n (i : Int) with
  | none => simp
  | some x =>
   obtain ⟨v, b⟩ := x
   have h1 := zck h hg
   have h2 := zba _ v (Nat.le_refl _)
   have h3 := zfs (f := f) (n := n) h m (i + 1)
   dsimp only
   rw [List.length_append, Nat.succ_mul]
   split <;> omega
theorem zhL {p : PM} {f : FM} {n v : List UInt8} {M : Nat} (h : ∀ x ∈ p, x.2.length ≤ M) (e : valueC p f n = some v) : v.length ≤ 256 * M := by
 have h63 := zfs (f := f) (n := n) h 63 1
 unfold valueC at e
 cases hg : getC p f n 0 with
 | none =>
  rw [hg] at e
  dsimp only at e
  cases h1 : lk p (n, -1, true) with
  | some u =>
   rw [h1] at e
   injection e with e
   have h2 := zhn h h1
   have h3 := zbL u
   have h4 := zba _ (splitC u).2 (Nat.le_refl _)
   have h5 := zeu (splitC u).1 (openC (splitC u).2)
   rw [← e]; omega
  | none =>
   rw [h1] at e
   have := zhn h e
   omega
 | some x =>
  obtain ⟨u, b⟩ := x
  rw [hg] at e
  dsimp only at e
  have h1 := zck h hg
  have h3 := zbL u
  have h4 := zba _ (splitC u).2 (Nat.le_refl _)
  have h5 := zeu (splitC u).1 (openC (splitC u).2 ++ sectC p f n 63 1)
  rw [List.length_append] at h5
  split at e
  ·injection e with e
   rw [← e]; omega
  ·injection e with e
   rw [← e, List.length_append]; omega
theorem zio (n : List UInt8) : (spotC n).1.length ≤ n.length := by
 have key : ∀ (m : List UInt8) (w : Bool), (spotN m w).1.length ≤ m.length := fun m w => by
  unfold spotN
  split
  ·split
   ·dsimp only; rw [List.length_take]; omega
   ·exact Nat.le_refl _
  ·exact Nat.le_refl _
 unfold spotC
 split
 ·have := key (n.take (n.length - 1)) true; rw [List.length_take] at this; omega
 ·exact key n false
structure LB (M c : Nat) (z : LSt) : Prop where
 p : ∀ x ∈ z.p, x.2.length ≤ M
 ns : ∀ n ∈ z.ns, n.length ≤ M
 c : z.ns.length ≤ c
theorem zie {M c : Nat} {z : LSt} {r : List Tkn} (h : LB M c z) (hr : (joinT r).length ≤ M) : LB M (c + 1) (stepC z r) := by
 have hp := zdp r []
 rw [List.length_nil, Nat.zero_add] at hp
 unfold stepC
 split
 ·exact ⟨h.p, h.ns, by have := h.c; omega⟩
 ·have hs := zio (pairC [] r).1
  dsimp only
  refine ⟨fun x hx => ?_, fun n hn => ?_, ?_⟩
  ·dsimp only at hx
   split at hx
   ·rcases List.mem_append.1 hx with hx | hx
    ·exact h.p x hx
    ·obtain rfl := List.mem_singleton.1 hx
     dsimp only; omega
   ·exact h.p x hx
  ·dsimp only at hn
   split at hn
   ·exact h.ns n hn
   ·rcases List.mem_append.1 hn with hn | hn
    ·exact h.ns n hn
    ·obtain rfl := List.mem_singleton.1 hn
     omega
  ·have := h.c
   dsimp only
   split
   ·omega
   ·rw [List.length_append, List.length_singleton]; omega
theorem ziB {M : Nat} {rows : List (List Tkn)} (h : ∀ r ∈ rows, (joinT r).length ≤ M) : (listC rows).length ≤ rows.length ∧ ∀ x ∈ listC rows, x.1.length ≤ M ∧ x.2.length ≤ 256 * M := by
 have key : ∀ (rows : List (List Tkn)) (c : Nat) (z : LSt), (∀ r ∈ rows, (joinT r).length ≤ M) → LB M c z → LB M (c + rows.length) (rows.foldl stepC z) := by
  intro rows
  induction rows with
  | nil => intro c z _ hz; exact hz
  | cons r rows ih =>
   intro c z hr hz
   have := ih (c + 1) (stepC z r) (fun q hq => hr q (List.mem_cons_of_mem _ hq)) (zie hz (hr r List.mem_cons_self))
   rw [List.length_cons, show c + (rows.length + 1) = c + 1 + rows.length by omega]
   exact this
 have hz := key rows 0 ⟨[], [], []⟩ h ⟨fun x hx => (by cases hx), fun n hn => (by cases hn), Nat.le_refl _⟩
 rw [Nat.zero_add] at hz
 have he : listC rows = (rows.foldl stepC ⟨[], [], []⟩).ns.filterMap fun n => (valueC (rows.foldl stepC ⟨[], [], []⟩).p (rows.foldl stepC ⟨[], [], []⟩).f n).map fun v => (n, v) := rfl
 rw [he]
 generalize rows.foldl stepC ⟨[], [], []⟩ = z at *
 refine ⟨Nat.le_trans (List.length_filterMap_le _ _) hz.c, fun x hx => ?_⟩
 obtain ⟨n, hn, hx⟩ := List.mem_filterMap.1 hx
 obtain ⟨v, hv, rfl⟩ := Option.map_eq_some_iff.1 hx
 exact ⟨hz.ns n hn, zhL hz.p hv⟩
theorem zib (s : List UInt8) : (typeC s).1.params.length ≤ s.length ∧ ∀ x ∈ (typeC s).1.params, x.1.length ≤ s.length ∧ x.2.length ≤ 256 * s.length := by
 have hbl := zfk (scanT s)
 have hsl := zbm s
 have hbn : (bareT (scanT s)).length ≤ (scanT s).length := List.length_filter_le _ _
 obtain ⟨hr1, hr2⟩ := zdc (bareT (scanT s))
 have hjs : (joinT (scanT s)).length ≤ s.length := hsl.1
 unfold typeC
 dsimp only
 split
 ·have := ziB (M := s.length) (rows := (rowsC (bareT (scanT s))).drop 1) fun r hr => by have := (hr2 r (List.mem_of_mem_drop hr)).2; omega
  rw [List.length_drop] at this
  refine ⟨by dsimp only; omega, this.2⟩
 ·exact ⟨Nat.zero_le _, fun x hx => by cases hx⟩
theorem zcR (s : List UInt8) (up depth : Int) (a e : Nat) (g : Bool) (hs : s.length ≤ 100000) (he : e ≤ s.length) : SmT (readM s up depth a e g) := by
 have hul : ((s.take e).drop a).length ≤ s.length := by rw [List.length_drop, List.length_take]; omega
 unfold readM SmT
 dsimp only
 generalize (s.take e).drop a = u at *
 have hpl := zeR u.length u 0
 have hpd : (parF u.length u 0).1 = (parH u).1 := rfl
 rw [hpd] at hpl
 have key : ∀ c : List UInt8, c.length ≤ u.length → (typeC c).1.params.length ≤ 100000000 ∧ ∀ x ∈ (typeC c).1.params, x.1.length ≤ 100000000 ∧ x.2.length ≤ 100000000 := fun c hc => by
  have h := zib c
  exact ⟨by omega, fun x hx => by have := h.2 x hx; exact ⟨by omega, by omega⟩⟩
 cases hg : getH (parH u).1 sCt with
 | some c =>
  exact key c (zcc (fun f hf => (hpl.2 f hf).2) hg)
 | none =>
  dsimp only
  split
  ·exact ⟨Nat.zero_le _, fun x hx => by cases hx⟩
  ·exact key [] (Nat.zero_le _)
end Go.Proofs.YtmjeacpoobbjjaaGreatDoor
namespace Go.Me
open Go Go.Cs Go.Tk Go.Hd Go.Ty
theorem zeS (s : List UInt8) : ∀ (k : Nat) (p : Prt) (z : Row), ∃ m, (treeM s k p z).l = z.l ++ [p] ++ m ∧ (treeM s k p z).found = z.found + m.length := by
 intro k
 induction k with
 | zero => intro p z; exact ⟨[], by simp [treeM], by simp [treeM]⟩
 | succ k ih =>
  intro p z
  have hf : ∀ (g : Nat × Nat → Prt) (cs : List (Nat × Nat)) (y : Row), ∃ m, (cs.foldl (fun y c => treeM s k (g c) y) y).l = y.l ++ m ∧ (cs.foldl (fun y c => treeM s k (g c) y) y).found + cs.length = y.found + m.length := by
   intro g cs
   induction cs with
   | nil => intro y; exact ⟨[], by simp, by simp⟩
   | cons c cs ihc =>
    intro y
    obtain ⟨m1, h1, h2⟩ := ih (g c) y
    obtain ⟨m2, h3, h4⟩ := ihc (treeM s k (g c) y)
    refine ⟨[g c] ++ m1 ++ m2, ?_, ?_⟩
    ·rw [List.foldl_cons, h3, h1]; simp
    ·rw [List.foldl_cons, List.length_cons, List.length_append, List.length_append, List.length_singleton]; omega
  unfold treeM
  dsimp only
  split
  ·exact ⟨[], by simp, by simp⟩
  ·obtain ⟨m, h1, h2⟩ := hf (fun c => readM s z.l.length (p.depth + 1) c.1 c.2 (digestM p)) (innerM s p) ⟨z.l ++ [p], z.found + (innerM s p).length⟩
   refine ⟨m, h1, ?_⟩
   dsimp only at h2
   omega
end Go.Me
