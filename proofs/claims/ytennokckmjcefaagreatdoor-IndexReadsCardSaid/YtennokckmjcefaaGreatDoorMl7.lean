/- Helper lemmas; no conditions of their own. -/
import Derived.Test.YtennokckmjcefaaGreatDoorGSrt1
set_option linter.unusedVariables false
set_option maxHeartbeats 16000000
set_option maxRecDepth 100000
namespace Go.Proofs.YtennokckmjcefaaGreatDoor
open Go.Shelf Go.RowKit Go.Pw Go.Vc Go.Cs Go.Lib Go.Cd Go.Mg
section
variable {α : Type} {T E : TypeId} {c : α → List Value} {s bytes : Nat} {w : World} {K : Value → World → Prop} {B : Nat} {v : Value} {l : List α} {cs : Array Bool}
theorem RowTy.app1W (ty : RowTy T E c s bytes) {b cap : Nat} (x : α) (h : OwnR E c s w B v l) (hB : B ≤ w.heap.size) (hx : At w b 0 (c x)) (h63 : l.length + 1 ≤ 9223372036854775807) (hbytes : (l.length + 1) * bytes ≤ 140737488355328)
  (k : ∀ v' w', OwnR E c s w' B v' (l ++ [x]) → Kp w w' (own_ v) → (v'.ownBlock = v.ownBlock ∨ v'.ownBlock = some w.heap.size) → K v' w') : RunN Tryz.prog (builtin .append #[T, T] T cs [v, .slice (some ⟨b, 0, none⟩) 1 cap].toArray) w K := by
 obtain ⟨z, hb, hz⟩ := ty.hb
 obtain ⟨i, hi, hi2⟩ := ybk.1 hb
 simp only [Prod.mk.injEq] at hi2
 obtain ⟨z1, z2, z3⟩ := hi2
 obtain ⟨v', w', h1, h2, h3, _, h5⟩ := run_append_own_at (P := Tryz.prog) w B T T E i z s bytes ty.ht hi z1 z2 z3 hz ty.hs v l.length _ h ⟨b, 0, none⟩ 1 cap (c x) (by rw [ty.len]; omega) (fun j u hj => by rw [add_none]; exact hx j u hj) (ty.one x) (by rw [show maxLen = 9223372036854775807 from rfl]; omega) hbytes hB
 have hk := Kp.ofGrown h3
 refine ⟨v', w', ?_, k v' w' ?_ ⟨hk.os, hk.tape, hk.output, hk.size, fun i hi hn => hk.block i hi fun e => hn e⟩ h5⟩
 ·show (do pure (Next.value (← Builtin.append_ #[T, T] T #[v, .slice (some ⟨b, 0, none⟩) 1 cap])) : Sem Next).run Tryz.prog _ = _
  simp [h1]
 unfold OwnR
 rw [yaa, yaC]
 simpa using h2
end
def HadAt (w : World) (hb : Nat) (es : List Ent) : Prop := ∃ m, GMap encSp w hb m ∧ ∀ e : Ent, (m.get (e.doc, e.field)).getD (.bool false) = .bool (hadE es e)
theorem HadAt.keep {w w' : World} {c : Nat → Prop} {hb : Nat} {es : List Ent} (h : HadAt w hb es) (k : Kp w w' c) (hc : ¬ c hb) : HadAt w' hb es := let ⟨m, h1, h2⟩ := h; ⟨m, h1.keep k hc, h2⟩
def DocAt (w : World) (db : Nat) (m : GM Int) (es : List Ent) : Prop := GMapO (Value.int .i64) w db m ∧ (m.map (·.1)).Nodup ∧ (∀ d, d ∈ m.map (·.1) ↔ ∃ e ∈ es, e.doc = d) ∧ m.length ≤ es.length
theorem DocAt.keep {w w' : World} {c : Nat → Prop} {db : Nat} {m : GM Int} {es : List Ent} (h : DocAt w db m es) (k : Kp w w' c) (hc : ¬ c db) : DocAt w' db m es := ⟨h.1.keep k hc, h.2⟩
theorem had_put {es : List Ent} {e : Ent} {m : GM (Int × Int)} (h : ∀ e : Ent, (m.get (e.doc, e.field)).getD (.bool false) = .bool (hadE es e)) : ∀ x : Ent, ((m.put (e.doc, e.field) (.bool true)).get (x.doc, x.field)).getD (.bool false) = .bool (hadE (es ++ [e]) x) := fun x => by
 rw [GM.get_put, zjF]
 by_cases hx : (x.doc, x.field) = (e.doc, e.field)
 ·rw [if_pos hx]
  injection hx with h1 h2
  have : hadE [e] x = true := zhj.2 ⟨e, by simp, h1.symm, h2.symm⟩
  rw [this, Bool.or_true]; rfl
 rw [if_neg hx, h x]
 have : hadE [e] x = false := by
  cases hq : hadE [e] x with
  | false => rfl
  | true =>
   obtain ⟨y, hy, h1, h2⟩ := zhj.1 hq
   rw [yac.1 hy] at h1 h2
   exact absurd (by rw [h1, h2]) hx
 rw [this, Bool.or_false]
theorem doc_put {es : List Ent} {e : Ent} {m : GM Int} (h1 : (m.map (·.1)).Nodup) (h2 : ∀ d, d ∈ m.map (·.1) ↔ ∃ e ∈ es, e.doc = d) (h3 : m.length ≤ es.length) (x : Value) :
  ((m.put e.doc x).map (·.1)).Nodup ∧ (∀ d, d ∈ (m.put e.doc x).map (·.1) ↔ ∃ y ∈ es ++ [e], y.doc = d) ∧ (m.put e.doc x).length ≤ (es ++ [e]).length := by
 refine ⟨put_nodup h1, fun d => ?_, ?_⟩
 ·rw [put_keys]
  constructor
  ·intro h
   split at h
   ·obtain ⟨y, hy, hd⟩ := (h2 d).1 h
    exact ⟨y, yaX _ hy, hd⟩
   rcases yaj.1 h with h | h
   ·obtain ⟨y, hy, hd⟩ := (h2 d).1 h
    exact ⟨y, yaX _ hy, hd⟩
   exact ⟨e, by simp, (yac.1 h).symm⟩
  rintro ⟨y, hy, rfl⟩
  rcases yaj.1 hy with hy | hy
  ·have := (h2 y.doc).2 ⟨y, hy, rfl⟩
   split
   ·exact this
   exact yaX _ this
  rw [yac.1 hy]
  split
  ·rename_i h; exact h
  simp
 have := zka (k := e.doc) (x := x) m
 rw [yaa]; simp; omega
structure BuildI (w wr : World) (sb : Nat) (es : List Ent) (f : Ky → Int → List Int) (N : Nat) : Prop where
 K : Kp w wr n_
 vs : VarK wr sb 65 [.slice none 0 0, .slice none 0 0]
 hh : HadAt wr (sb + 1) es
 hd : ∃ mD, DocAt wr (sb + 1 + 1) mD es
 ht : ∃ m M, TmAt wr (sb + 1 + 1 + 1 + 1) (sb + 1 + 1 + 1) m M f N ∧ ∀ k x, M k = some x → x.2 ≠ []
theorem BuildI.keep0 {w wr wr' : World} {sb : Nat} {es : List Ent} {f : Ky → Int → List Int} {N N' : Nat} (h : BuildI w wr sb es f N) (k : Kp wr wr' n_) (hN : N ≤ N') : BuildI w wr' sb es f N' :=
 let ⟨mD, hd⟩ := h.hd
 let ⟨m, M, ht, hf⟩ := h.ht
 ⟨h.K.trans0 k, h.vs.keep0 k, h.hh.keep k id, ⟨mD, hd.keep k id⟩, m, M, (ht.keep0 k).mono hN, hf⟩
theorem zmV (l : List Ent) : (keptE l).length ≤ l.length := by
 have : ∀ (l a : List Ent), (l.foldl stepE a).length ≤ a.length + l.length := by
  intro l
  induction l with
  | nil => intro a; simp
  | cons e l ih =>
   intro a
   rw [ybC, yab]
   have h1 := ih (stepE a e)
   have h2 : (stepE a e).length ≤ a.length + 1 := by unfold stepE; split <;> simp
   omega
 have := this l []
 unfold keptE
 simpa using this
theorem zpW (a b : Int) (w : World) : (Instr.build 161 [(0, .int .i64 a), (1, .int .i64 b)].toArray).run Tryz.prog w = .ok (.agg #[.int .i64 a, .int .i64 b]) w := by
 simp [Instr.build, Instr.fill, go_sem, Tryz.runUnderlying161]
theorem zqh (a : Int) (b : ByteArray) (w : World) : (Instr.build 164 [(0, .int .i64 a), (1, .string b)].toArray).run Tryz.prog w = .ok (.agg #[.int .i64 a, .string b]) w := by
 simp [Instr.build, Instr.fill, go_sem, Tryz.runUnderlying164]
theorem zoD {κ : Type} {enc : κ → Value} {w : World} {mb b : Nat} {T : TypeId} {cs : List Value} {m : GM κ} (hm : GMapO enc w mb m) (h : VarK w b T cs) : mb ≠ b := fun e => by
 obtain ⟨es, cl, h1, _⟩ := hm
 unfold VarK at h
 rw [e, h] at h1; cases h1
structure PutI (wz u : World) (B ob : Nat) (gm : GM Int) (doc x : Int) (vr : Value) (F : List Int) : Prop where
 S : Kp wz u (fun q => own_ vr q ∨ q = ob)
 ex : ∃ u1 v' n0, OwnI u1 B v' (F ++ [x]) ∧ Kp wz u1 (own_ vr) ∧ (v'.ownBlock = vr.ownBlock ∨ v'.ownBlock = some n0) ∧ wz.heap.size ≤ n0 ∧ GMapO (Value.int .i64) u ob (GM.put gm doc v') ∧ Kp u1 u (one_ ob)
theorem zuq {κ : Type} [DecidableEq κ] {m : GM κ} {k : κ} {x : Value} : m.put k x ≠ [] := by
 cases m with
 | nil => intro h; cases h
 | cons p m => obtain ⟨s, v⟩ := p; unfold GM.put; split <;> intro h <;> cases h
theorem zpK {M : TM} {k : Ky} {ob : Nat} {g : GM Int} {d : Int} {v : Value} (h : ∀ k' x, k' ≠ k → M k' = some x → x.2 ≠ []) : ∀ k' x, upM M k (ob, g.put d v) k' = some x → x.2 ≠ [] := fun k' x hx => by
 unfold upM at hx
 split at hx
 ·injection hx with hx; subst hx; exact zuq
 rename_i hne; exact h k' x hne hx
theorem zmj (d : Int) (a : Option Addr) (n c : Nat) (w : World) : (Instr.build 44 [(0, .int .i64 d), (1, .slice a n c)].toArray).run Tryz.prog w = .ok (.agg #[.int .i64 d, .slice a n c]) w := by
 simp [Instr.build, Instr.fill, go_sem, Tryz.runUnderlying44]
def keysM (M : TM) (k : Ky) : List Int := match M k with | some x => x.2.map (·.1) | none => []
section
variable {w : World}
theorem zqN {v : Value} (l : List Ent) (hr : RowO w v enC l) (hE : CEnv w) (hl : l.length ≤ 1000) (htx : ∀ e ∈ l, e.text.length ≤ 10000) :
  Calls Tryz.prog 85 #[v] w fun e w' => ∃ h' s, e = .returned (.agg (sgC h').toArray) ∧ OwS w' w.heap.size h' s ∧ Built s (keptE l) ∧ Kp w w' n_ := by
 obtain ⟨a, c, rfl, hra⟩ := hr
 refine zaa (args := [.slice a l.length c]) Tryz.func85 rfl NL ?_; refine GW ?_
 have vs := Yk w 65 [.slice none 0 0, .slice none 0 0]
 have ks : Kp w (w.alloc (.cells (List.toArray [.slice none 0 0, .slice none 0 0]) 65)) n_ := (Yb _ _).alloc _
 have zs : (w.alloc (.cells (List.toArray [.slice none 0 0, .slice none 0 0]) 65)).heap.size = w.heap.size + 1 := by simp
 generalize w.alloc (.cells (List.toArray [.slice none 0 0, .slice none 0 0]) 65) = ws at *
 obtain ⟨sb, hsb⟩ : ∃ sb, w.heap.size = sb := ⟨_, rfl⟩
 rw [hsb] at vs zs ⊢
 refine KGO ?_
 refine RunV.makeMap rfl ?_
 have hh : HadAt (ws.alloc (.map #[] 0)) ws.heap.size [] := ⟨[], (GMapO.new (enc := encSp) ws).g, fun e => rfl⟩
 have kh : Kp ws (ws.alloc (.map #[] 0)) n_ := (Yb _ _).alloc _
 have zh : (ws.alloc (.map #[] 0)).heap.size = ws.heap.size + 1 := by simp
 generalize ws.alloc (.map #[] 0) = wh at *
 rw [zs] at hh zh ⊢
 refine KGO ?_
 refine RunV.makeMap rfl ?_
 have hd : DocAt (wh.alloc (.map #[] 0)) wh.heap.size [] [] := ⟨GMapO.new wh, .nil, fun d => by simp, yag _⟩
 have kd : Kp wh (wh.alloc (.map #[] 0)) n_ := (Yb _ _).alloc _
 have zd : (wh.alloc (.map #[] 0)).heap.size = wh.heap.size + 1 := by simp
 generalize wh.alloc (.map #[] 0) = wd at *
 rw [zh] at hd zd ⊢
 refine KGO ?_
 refine RunV.makeMap rfl ?_
 have ht := TmAt.init wd
 have kt : Kp wd (wd.alloc (.map #[] 0)) n_ := (Yb _ _).alloc _
 generalize wd.alloc (.map #[] 0) = w0 at *
 rw [zd] at ht ⊢
 have K0 := ((ks.trans0 kh).trans0 kd).trans0 kt
 have vs := ((vs.keep0 kh).keep0 kd).keep0 kt
 have hh := (hh.keep kd id).keep kt id
 have hd := hd.keep kt id
 refine KGO ?_
 refine Yc (ι := Nat) (fun i => [(2, .pointer (some ⟨sb, 0, none⟩)), (3, .map (some (sb + 1))), (4, .map (some (sb + 1 + 1))), (5, .map (some (sb + 1 + 1 + 1))), (20, .slice a l.length c), (21, .int .i64 (l.length : Nat)), (22, .int .i64 (i : Nat))])
  (fun i wr => i ≤ l.length ∧ BuildI w wr sb (keptE (l.take i)) (placesE (keptE (l.take i))) (i * 40004)) (fun i => l.length - i) 0 FR
  ⟨yal _, ⟨K0, vs, hh, ⟨[], hd⟩, [], fun _ => none, by rw [yaO]; exact ht, fun k x h => by cases h⟩⟩ ?_
 clear hd hh vs K0 kt kd zd kh zh ks zs ht
 rintro i gg wr ⟨hi, hB⟩
 have ⟨hK, vs, hh, ⟨mD, hd⟩, m, M, ht, hf⟩ := hB
 have hlen := zmV (l.take i)
 refine GW ?_
 by_cases hlt : i < l.length
 ·obtain ⟨g, o, rfl, hg, hat⟩ := hra OM
  have hte := htx _ (yak hlt)
  have hkn : keptE (l.take (i + 1)) = stepE (keptE (l.take i)) l[i] := by rw [yad hlt, zmp]
  generalize hes : keptE (l.take i) = es at *
  refine KGO ?_
  have v7 := Yk wr 111 (enC l[i])
  refine Yg (vs := enC l[i]) (by rfl) rfl (zak (by rfl)) ?_
  obtain ⟨a_b7, k_w1, z_w1⟩ := new3 wr 111 (enC l[i])
  generalize wr.alloc (.cells (List.toArray (enC l[i])) 111) = w1 at *
  generalize hs_b7 : wr.heap.size = b7 at *
  refine KGO ?_
  refine Ye (zpW _ _ _) ?_
  refine KGO ?_
  have v8 := Yk w1 161 (spC (l[i].doc, l[i].field))
  refine Yg (vs := spC (l[i].doc, l[i].field)) (by rfl) rfl (zak (by rfl)) ?_
  obtain ⟨a_b8, k_w2, z_w2⟩ := new3 w1 161 (spC (l[i].doc, l[i].field))
  generalize w1.alloc (.cells (List.toArray (spC (l[i].doc, l[i].field))) 161) = w2 at *
  generalize hs_b8 : w1.heap.size = b8 at *
  have K12 := k_w1.trans0 k_w2
  have v7 := v7.keep0 k_w2
  have a7 := v7.at
  have a8 := v8.at
  have q2 := Yb w2 n_
  clear a_b7 a_b8
  refine KGO ?_
  refine Ya (Tryz.call139 _ _) (zpa (w := w2) l[i]) ?_
  rintro e w3 ⟨rfl, k3⟩
  have K13 := K12.trans0 k3
  have a7 := at_mono a7 k3
  have a8 := at_mono a8 k3
  refine RT ?_
  cases hc : countsE l[i] with
  | false =>
   have hst : stepE es l[i] = es := if_neg fun h => by rw [hc] at h; cases h.1
   refine KGO ?_
   exact ⟨i + 1, FR, ⟨OM, by rw [hkn, hst]; exact hB.keep0 K13 OM⟩, DO⟩
  | true =>
  have q3 := Yb w3 n_
  obtain ⟨mh, hm, hme⟩ := hh.keep K13 id
  refine KGO ?_
  refine Yn keySp Tryz.underlying158 (by rfl) hm (l[i].doc, l[i].field) rfl ?_
  rw [hme l[i]]
  cases hx : hadE es l[i] with
  | true =>
   have hst : stepE es l[i] = es := if_neg fun h => by rw [hx] at h; cases h.2
   refine KGO ?_
   exact ⟨i + 1, FR, ⟨OM, by rw [hkn, hst]; exact hB.keep0 K13 OM⟩, DO⟩
  | false =>
  have hst : stepE es l[i] = es ++ [l[i]] := if_pos ⟨hc, hx⟩
  refine KGO ?_
  have kd3 := q3.drew
  have hsz := ht.sz
  have v7 := v7.keep0 k3
  have v8 := v8.keep0 k3
  refine Yo (fun u => Kp w3 u (fun q => q = sb + 1 ∨ q = sb + 1 + 1)) (fun _ => true) (by decide +kernel) kd3.of_none ?_
  refine KGO ?_
  refine HeldG (spC (l[i].doc, l[i].field)) (by rfl) (by rfl) (fun u hu => (v8.keep hu (by rintro (e | e) <;> omega)).at) (by rfl) ?_
  refine KGO ?_
  refine Yf (by rfl) (fun u hu => (v7.keep hu (by rintro (e | e) <;> omega)).at 0 _ rfl) ?_
  refine KGO ?_
  refine RunU.updG keySp Tryz.underlying158 (hm.keep kd3 id) (l[i].doc, l[i].field) rfl (.bool true) fun w4 gm4 k4 => ?_
  have J4 : Kp w3 w4 (one_ (sb + 1)) := kd3.of_none.trans' k4
  refine ⟨J4.mono fun q _ e => .inl e, ?_⟩
  refine KGO ?_
  have hd4 := (hd.keep K13 id).keep J4 (show ¬ sb + 1 + 1 = sb + 1 by omega)
  refine RunU.updGO okKI Tryz.underlying143 hd4.1 l[i].doc rfl (.bool true) fun w5 gd5 k5 => ?_
  have J5 : Kp w3 w5 (fun q => q = sb + 1 ∨ q = sb + 1 + 1) := (J4.mono fun q _ e => .inl e).trans' (k5.mono fun q _ e => .inr e)
  refine ⟨J5, ?_⟩
  have K15 : Kp wr w5 (fun q => q = sb + 1 ∨ q = sb + 1 + 1) := K13.of_none.trans' J5
  have d5 : DocAt w5 (sb + 1 + 1) (mD.put l[i].doc (.bool true)) (es ++ [l[i]]) := ⟨gd5, doc_put hd.2.1 hd.2.2.1 hd.2.2.2 _⟩
  have h5 : HadAt w5 (sb + 1) (es ++ [l[i]]) := ⟨_, gm4.keep k5 (show ¬ sb + 1 = sb + 1 + 1 by omega), had_put hme⟩
  have t5 := ht.keepB K15 (fun q e => by rcases e with e | e <;> omega)
  have s5 := vs.keep K15 (by rintro (e | e) <;> omega)
  have v75 := v7.keep J5 (by rintro (e | e) <;> omega)
  have Kw5 : Kp w w5 n_ := hK.trans K15 (fun q hq e => by rcases e with e | e <;> omega)
  clear v8 v7 a7 a8 k4 k5 J4 J5 gm4 gd5 hd4 hm hme hx hB hh hd kd3 K12 K13 q2 q3 k_w1 k_w2 k3
  have a75 := v75.at
  have q5 := Yb w5 n_
  refine KGO ?_
  refine Ya (Tryz.call25 _ _) (zho (w := w5) (str l[i].text) (hE.keep Kw5).c (hE.keep Kw5).f (by have : (str l[i].text).size = l[i].text.length := rfl; omega)) ?_
  rintro e w6 ⟨v6, rfl, o6, k6⟩
  have o6 := zhA o6
  rw [show listL (L (str l[i].text)) = wordsOf l[i].text from rfl] at o6
  have hWl : (wordsOf l[i].text).length ≤ 2 * l[i].text.length + 1 := zbn _
  generalize hW : wordsOf l[i].text = W at *
  obtain ⟨a6, c6, rfl⟩ := zab o6
  have s6 := s5.keep0 k6
  have h6 := h5.keep k6 id
  have d6 := d5.keep k6 id
  have t6 := t5.keep0 k6
  have v76 := v75.keep0 k6
  have Kw6 := Kw5.trans0 k6
  have z5 := t5.sz
  clear s5 h5 d5 t5 v75 a75 q5 Kw5
  refine RT ?_
  refine KGO ?_
  refine Yc (ι := Nat) (fun k => [(2, .pointer (some ⟨sb, 0, none⟩)), (3, .map (some (sb + 1))), (4, .map (some (sb + 1 + 1))), (5, .map (some (sb + 1 + 1 + 1))), (7, .pointer (some ⟨b7, 0, none⟩)), (20, .slice (some ⟨g, o, none⟩) l.length c), (21, .int .i64 (l.length : Nat)), (22, .int .i64 (i : Nat)), (46, .slice a6 W.length c6), (47, .int .i64 (W.length : Nat)), (48, .int .i64 (k : Nat))])
   (fun k wq => k ≤ W.length ∧ Kp w6 wq (fun q => sb + 1 + 1 + 1 ≤ q) ∧ VarK wq b7 111 (enC l[i]) ∧ OwnT wq w5.heap.size (.slice a6 W.length c6) W ∧
    ∃ m M, TmAt wq (sb + 1 + 1 + 1 + 1) (sb + 1 + 1 + 1) m M (fun ky d => placesE es ky d ++ partE (W.take k) l[i].doc l[i].field ky d) (i * 40004 + 2 * k) ∧ ∀ k x, M k = some x → x.2 ≠ []) (fun k => W.length - k) 0
   FR ⟨yal _, Yb _ _, v76, o6, m, M, by
    have e : (fun ky d => placesE es ky d ++ partE (W.take 0) l[i].doc l[i].field ky d) = placesE es := by funext ky d; rw [ybG, partE_nil, yaA]
    rw [e]; exact t6, hf⟩ ?_
  clear ht hf t6 v76 o6 vs K15 hra
  rintro k gg2 wq ⟨hk, hKq, v7, o6, m, M, ht, hf⟩
  have a7 := v7.at
  have qq := Yb wq n_
  refine GW ?_
  by_cases hkt : k < W.length
  rotate_left
  ·obtain rfl : k = W.length := OM
   rw [yaD] at ht
   have e : (fun ky d => placesE es ky d ++ partE W l[i].doc l[i].field ky d) = placesE (es ++ [l[i]]) := by funext ky d; rw [zjf, hW]
   rw [e] at ht
   refine KGO ?_
   exact ⟨i + 1, FR, ⟨OM, by
    rw [hkn, hst]
    exact ⟨Kw6.trans hKq (fun q hq e => OM), s6.keep hKq OM, h6.keep hKq OM, ⟨_, d6.keep hKq OM⟩, m, M, ht.mono OM, hf⟩⟩, DO⟩
  obtain ⟨g6, e6, _, _, hat6⟩ := zdY o6 OM
  obtain rfl := e6
  have ck := zur hat6 hkt
  refine KGO ?_
  refine Ye (zqh _ _ _) ?_
  refine KGO ?_
  have v11 := Yk wq 164 (kyC (l[i].field, W[k]))
  refine Yg (vs := kyC (l[i].field, W[k])) (by rfl) rfl (zak (by rfl)) ?_
  obtain ⟨a_b11, k_wa, z_wa⟩ := new3 wq 164 (kyC (l[i].field, W[k]))
  generalize wq.alloc (.cells (List.toArray (kyC (l[i].field, W[k]))) 164) = wa at *
  generalize hs_b11 : wq.heap.size = b11 at *
  have ha := ht.keep0 k_wa
  have a7a := at_mono a7 k_wa
  have qa := Yb wa n_
  refine KGO ?_
  refine Yn keyKy Tryz.underlying159 (by rfl) ha.mp.g (l[i].field, W[k]) rfl ?_
  rw [ha.gt]
  rcases hM : M (l[i].field, W[k]) with _ | x
  rotate_left
  obtain ⟨ob, gm⟩ := x
  dsimp only [Option.map, Option.getD, valM]
  refine KGO ?_
  have hfa : ∀ k' x, k' ≠ (l[i].field, W[k]) → M k' = some x → x.2 ≠ [] := fun k' x _ h => hf k' x h
  have v7z := v7.keep0 k_wa
  have o6z := own_keep0 o6 k_wa
  have KqZ : Kp w6 wa (fun q => sb + 1 + 1 + 1 ≤ q) := hKq.trans' k_wa.of_none
  have hz := ha
  have hMz := hM
  generalize wa = wu at *
  rotate_left
  dsimp only [Option.map, Option.getD]
  refine KGO ?_
  refine RunV.makeMap rfl ?_
  have kn : Kp wa (wa.alloc (.map #[] 0)) n_ := (Yb _ _).alloc _
  have hn := GMapO.new (enc := Value.int .i64) (κ := Int) wa
  generalize wa.alloc (.map #[] 0) = wn at *
  obtain ⟨ob, hob⟩ : ∃ ob, wa.heap.size = ob := ⟨_, rfl⟩
  rw [hob] at hn ⊢
  refine KGO ?_
  refine RunU.updGO keyKy Tryz.underlying159 (ha.mp.keep kn id) (l[i].field, W[k]) rfl (.map (some ob)) fun wu gu ku => ?_
  have hz := ha.new hM (Nat.le_of_eq hob) kn hn gu ku
  have hMz : upM M (l[i].field, W[k]) (ob, []) (l[i].field, W[k]) = some (ob, []) := if_pos rfl
  have hfa : ∀ k' x, k' ≠ (l[i].field, W[k]) → upM M (l[i].field, W[k]) (ob, []) k' = some x → x.2 ≠ [] := fun k' x hne h => by
   unfold upM at h
   rw [if_neg hne] at h
   exact hf k' x h
  have Kau : Kp wa wu (one_ (sb + 1 + 1 + 1)) := kn.of_none.trans' ku
  have hszq := ha.sz
  have lt7 := v7.lt
  have v7z := (v7.keep0 k_wa).keep Kau (show ¬ b7 = sb + 1 + 1 + 1 by omega)
  have v11 := v11.keep Kau (show ¬ b11 = sb + 1 + 1 + 1 by omega)
  have o6z := own_keep (own_keep0 o6 k_wa) Kau (fun q hq e => by
   have e : q = sb + 1 + 1 + 1 := e
   obtain ⟨_, _, _, hB6, _⟩ := zat o6 hq
   omega)
  have KqZ : Kp w6 wu (fun q => sb + 1 + 1 + 1 ≤ q) := (hKq.trans' k_wa.of_none).trans' (Kau.mono fun q _ e => by have e : q = sb + 1 + 1 + 1 := e; omega)
  generalize m.put (l[i].field, W[k]) (.map (some ob)) = m at *
  generalize upM M (l[i].field, W[k]) (ob, []) = M at *
  obtain ⟨gm, hgm⟩ : ∃ gm : GM Int, gm = [] := ⟨_, rfl⟩
  rw [← hgm] at hMz
  clear hgm
  refine KGO ?_
  all_goals
   obtain ⟨ky, hky⟩ : ∃ ky : Ky, (l[i].field, W[k]) = ky := ⟨_, rfl⟩
   obtain ⟨dc, hdc⟩ : ∃ dc : Int, l[i].doc = dc := ⟨_, rfl⟩
   obtain ⟨F, hF⟩ : ∃ F, placesE es (l[i].field, W[k]) l[i].doc ++ partE (List.take k W) l[i].doc l[i].field (l[i].field, W[k]) l[i].doc = F := ⟨_, rfl⟩
   obtain ⟨vr, hv⟩ : ∃ vr, (GM.get gm l[i].doc).getD (.slice none 0 0) = vr := ⟨_, rfl⟩
   have hrow := hz.row hMz l[i].doc
   have hfl := hz.fl (l[i].field, W[k]) l[i].doc
   rw [hv] at hrow
   try dsimp only at hrow hfl
   rw [hF] at hrow hfl
   have hF1 : F.length + 1 ≤ 9223372036854775807 := OM
   have hF2 : (F.length + 1) * 8 ≤ 140737488355328 := OM
   obtain ⟨ar, cr, er⟩ := zab hrow
   subst er
   have hobm := (hz.ob _ _ hMz).2.1
   dsimp only at hobm
   have hzs := hz.sz
   have lt7z := v7z.lt
   have lt11 := v11.lt
   have obB := (hz.ob _ _ hMz).1
   dsimp only at obB
   have hnt : ¬ own_ (.slice ar F.length cr) (sb + 1 + 1 + 1) := zeE hz.mp hrow
   have hno : ¬ own_ (.slice ar F.length cr) ob := zeE hobm hrow
   have hn11 : ¬ (own_ (.slice ar F.length cr) b11 ∨ b11 = ob) := fun e => e.elim (zac hrow v11 (by decide)) (fun e => zoD hobm v11 e.symm)
   have hn7 : ¬ (own_ (.slice ar F.length cr) b7 ∨ b7 = ob) := fun e => e.elim (zac hrow v7z (by decide)) (fun e => zoD hobm v7z e.symm)
   refine Draw.cut (ι := Unit) (fun _ => [(2, .pointer (some ⟨sb, 0, none⟩)), (3, .map (some (sb + 1))), (4, .map (some (sb + 1 + 1))), (5, .map (some (sb + 1 + 1 + 1))), (7, .pointer (some ⟨b7, 0, none⟩)), (20, .slice (some ⟨g, o, none⟩) l.length c), (21, .int .i64 (l.length : Nat)), (22, .int .i64 (i : Nat)), (46, .slice (some ⟨g6, 0, none⟩) W.length c6), (47, .int .i64 (W.length : Nat)), (48, .int .i64 (k : Nat))])
    (fun _ u => PutI wu u (sb + 1 + 1 + 1 + 1) ob gm l[i].doc (k : Nat) (.slice ar F.length cr) F) ?_ ?_
   ·have P0 : Kp wu (wu).drew (own_ (.slice ar F.length cr)) := ((Yb wu n_).drew).of_none
    have S0 : Kp wu (wu).drew (fun q => own_ (.slice ar F.length cr) q ∨ q = ob) := ((Yb wu n_).drew).of_none
    have R0 := own_keep0 hrow ((Yb wu n_).drew)
    have hk11 : ∀ u, Kp wu u (fun q => own_ (.slice ar F.length cr) q ∨ q = ob) → At u b11 0 (kyC (l[i].field, W[k])) := fun u hu => (v11.keep hu hn11).at
    have hk7 : ∀ u, Kp wu u (fun q => own_ (.slice ar F.length cr) q ∨ q = ob) → u.cell? ⟨b7, 0 + 0, none⟩ = some (.int .i64 l[i].doc) := fun u hu => (v7z.keep hu hn7).at 0 _ rfl
    have hmp := hz.mp
    have hgt : (GM.get m (l[i].field, W[k])).getD (.map none) = .map (some ob) := by rw [hz.gt, hMz]; rfl
    rw [hky, hdc] at *
    have hfin : ∀ (u : World) (v : Unit), True := fun _ _ => trivial
    clear hfin hF hfl v7z o6z KqZ hz hMz v11 lt7z lt11 obB hn11 hn7 hfa
    refine Draw.tree (fun u => Kp wu u (fun q => own_ (.slice ar F.length cr) q ∨ q = ob)) (fun _ => true) 6 [2, 7, 10, 12, 13, 14] [0, 1, 3, 4, 5, 6, 8, 9, 11] (by decide +kernel) S0 ?_
    have P := P0
    have S := S0
    have R := R0
    repeat' (first
     | (
       refine HeldG (kyC ky) (by rfl) (by rfl) hk11 (by rfl) ?_
       refine GW ?_)
     | (
       refine Yf (by rfl) hk7 ?_
       refine GW ?_)
     | (
       refine Yn keyKy Tryz.underlying159 (by rfl) (hmp.keep P hnt).g ky rfl ?_
       rw [hgt]
       refine GW ?_
       refine ⟨S, ?_⟩
       refine GW ?_
       refine ⟨rfl, ?_⟩)
     | (
       refine Yn okKI Tryz.underlying165 (by rfl) (hobm.keep P hno).g dc rfl ?_
       rw [hv]
       refine GW ?_
       refine ⟨S, ?_⟩
       refine GW ?_
       refine ⟨rfl, ?_⟩)
     | (
       refine Ye (bs1I (k : Nat) _) ?_
       obtain ⟨a_b12, v_b12, k_u1, z_u1, r_u1⟩ := new5 (wu).drew 3 (inC ((k : Nat) : Int))
       generalize (wu).drew.alloc (.cells (List.toArray (inC ((k : Nat) : Int))) 3) = u1 at *
       generalize hs_b12 : (wu).drew.heap.size = b12 at *
       have P := P.trans' k_u1.of_none
       have S := S.trans' k_u1.of_none
       have R := own_keep0 R k_u1
       refine GW ?_
       refine ⟨S, ?_⟩
       refine GW ?_
       refine ⟨rfl, ?_⟩)
     | (
       refine tyI.app1W (k : Nat) R (yaw hzs P.size) a_b12 hF1 hF2 fun v' u2 o' k' hb' => ?_
       have hn0 := P.size
       have P := P.trans' k'
       have S := S.trans' (k'.mono fun q _ e => .inl e)
       obtain ⟨av', cv', e'⟩ := zab o'
       subst e'
       refine GW ?_
       refine ⟨S, ?_⟩
       refine GW ?_
       refine ⟨rfl, ?_⟩)
     | (
       refine RunU.updGO okKI Tryz.underlying165 (hobm.keep P hno) dc rfl _ fun u3 g' k'' => ?_
       have S := S.trans' (k''.mono fun q _ e => .inr e)
       refine GW ?_
       refine ⟨S, ?_⟩
       refine GW ?_
       refine ⟨rfl, ?_⟩
       refine TreeS.leaf ?_
       refine GW ?_
       exact ⟨(), FR, ⟨S, _, _, _, o', P, hb', hn0, g', k''⟩⟩)
     | (
       first
        | refine TreeS.node [(2, [0, 1, 2], [7, 10, 12, 13, 14], [3, 4, 5, 6, 8, 9, 11]), (7, [5, 6, 7], [2, 10, 12, 13, 14], [0, 1, 3, 4, 8, 9, 11]), (12, [11, 12], [2, 7, 10, 13, 14], [0, 1, 3, 4, 5, 6, 8, 9])] (by decide +kernel) ?_
        | refine TreeS.node [(7, [5, 6, 7], [10, 12, 13, 14], [3, 4, 8, 9, 11]), (12, [11, 12], [7, 10, 13, 14], [3, 4, 5, 6, 8, 9])] (by decide +kernel) ?_
        | refine TreeS.node [(10, [8, 9, 10], [12, 13, 14], [3, 4, 11]), (12, [11, 12], [10, 13, 14], [3, 4, 8, 9])] (by decide +kernel) ?_
        | refine TreeS.node [(12, [11, 12], [13, 14], [3, 4])] (by decide +kernel) ?_
        | refine TreeS.node [(13, [13], [14], [3, 4])] (by decide +kernel) ?_
        | refine TreeS.node [(14, [3, 4, 14], [], [])] (by decide +kernel) ?_
        | refine TreeS.node [(10, [8, 9, 10], [13, 14], [3, 4])] (by decide +kernel) ?_
        | refine TreeS.node [(7, [5, 6, 7], [10, 13, 14], [3, 4, 8, 9])] (by decide +kernel) ?_
        | refine TreeS.node [(2, [0, 1, 2], [10, 12, 13, 14], [3, 4, 8, 9, 11]), (10, [8, 9, 10], [2, 12, 13, 14], [0, 1, 3, 4, 11]), (12, [11, 12], [2, 10, 13, 14], [0, 1, 3, 4, 8, 9])] (by decide +kernel) ?_
        | refine TreeS.node [(2, [0, 1, 2], [12, 13, 14], [3, 4, 11]), (12, [11, 12], [2, 13, 14], [0, 1, 3, 4])] (by decide +kernel) ?_
        | refine TreeS.node [(2, [0, 1, 2], [13, 14], [3, 4]), (13, [13], [2, 14], [0, 1, 3, 4])] (by decide +kernel) ?_
        | refine TreeS.node [(2, [0, 1, 2], [14], [3, 4])] (by decide +kernel) ?_
        | refine TreeS.node [(2, [0, 1, 2], [10, 13, 14], [3, 4, 8, 9]), (10, [8, 9, 10], [2, 13, 14], [0, 1, 3, 4])] (by decide +kernel) ?_
        | refine TreeS.node [(2, [0, 1, 2], [7, 10, 13, 14], [3, 4, 5, 6, 8, 9]), (7, [5, 6, 7], [2, 10, 13, 14], [0, 1, 3, 4, 8, 9])] (by decide +kernel) ?_
       intro p hp
       repeat' (rcases hp with _ | ⟨_, hp⟩)
       all_goals
        refine GW ?_))
   rintro ⟨⟩ g9 w9 ⟨S9, u1, v', n0, o', P9, hb', hn0, g', k'⟩
   try dsimp only
   rw [← hF] at o'
   have t9 := hz.put (x := (k : Nat)) hMz o' (by rw [hv]; exact P9) (by rw [hv]; exact hb') hn0 g' k'
   rw [zng _ W k hkt] at t9
   have f9 := zpK (ob := ob) (g := gm) (d := l[i].doc) (v := v') hfa
   have cq : ∀ q, (own_ (.slice ar F.length cr) q ∨ q = ob) → sb + 1 + 1 + 1 ≤ q := fun q e => by
    rcases e with e | e
    ·obtain ⟨_, _, _, hBq, _⟩ := zat hrow e
     omega
    omega
   have o9 := own_keep o6z S9 (fun q hq e => by
    rcases e with e | e
    ·obtain ⟨cs, z, hh, _, hlt⟩ := zat o6z hq
     exact zaC (D := [9]) hrow (by decide) q hlt e _ _ _ hh (by simp)
    subst e
    exact zeE hobm o6z hq)
   have v9 := v7z.keep S9 hn7
   have K9 := KqZ.trans' (S9.mono fun q _ e => cq q e)
   clear hv hrow hnt hno hn11 hn7 hobm hF1 hF2 cq
   refine KGO ?_
   exact ⟨k + 1, FR, ⟨OM, K9, v9, o9, _, _, t9.mono OM, f9⟩, DO⟩
 obtain rfl : i = l.length := OM
 rw [yaD] at hB hh hd ht hlen
 clear hB
 have hkep := zji l
 have htxk : ∀ e ∈ keptE l, e.text.length ≤ 10000 := fun e he => htx e (znZ he)
 generalize keptE l = es at *
 refine KGO ?_
 refine RunV.rangeG Tryz.underlying159 ht.mp fun w1 hg k1 z1 => ?_
 obtain ⟨rb, hrb⟩ : ∃ rb, wr.heap.size = rb := ⟨_, rfl⟩
 rw [hrb] at hg ⊢
 refine KGO ?_
 refine Yc (ι := GM Ky × GM Ky × Sl) (fun p => [(2, .pointer (some ⟨sb, 0, none⟩)), (4, .map (some (sb + 1 + 1))), (81, .pointer (some ⟨rb, 0, none⟩))])
  (fun p wq => Kp wr wq (one_ sb) ∧ wr.heap.size + 1 ≤ wq.heap.size ∧ zbZ encKy wq (sb + 1 + 1 + 1) rb p.2.1 ∧ (p.1 ++ p.2.1).Perm m ∧ VarK wq sb 65 [p.2.2.v, .slice none 0 0] ∧ OwnR 141 tmC 3 wq (wr.heap.size + 1) p.2.2.v (p.1.map fun x => tmOf (placesE es) (x.1, keysM M x.1))) (fun p => p.2.1.length) ([], m, ⟨none, 0, 0⟩) FR
  ⟨k1.of_none, OM, hg, List.Perm.refl _, vs.keep0 k1, World.ownsRow_nil _ _ _ _⟩ ?_
 clear hg k1 z1 vs
 rintro ⟨pre, left, hs⟩ gg2 wq ⟨hKq, zq, hg, hp, vs, ot⟩
 dsimp only at hg hp vs ot ⊢
 have htq := ht.keepB hKq (fun q e => by have e : q = sb := e; omega)
 have Kwq : Kp w wq n_ := hK.trans hKq (fun q hq e => by have e : q = sb := e; omega)
 have plen : pre.length ≤ l.length * 40004 := by have := hp.length_eq; rw [yaa] at this; have := ht.ln; omega
 refine GW ?_
 refine KGO ?_
 refine RunV.nextG hg (fun hl w2 k2 z2 => ?_) (fun pa p po w2 hl hr2 k2 z2 hent => ?_)
 ·subst hl
  rw [yaA] at hp
  have vs2 := vs.keep0 k2
  have ot2 := own_keep0 ot k2
  have hTSp : (pre.map fun x => tmOf (placesE es) (x.1, keysM M x.1)).Perm ((m.map fun x => (x.1, keysM M x.1)).map (tmOf (placesE es))) := by
   rw [ybe]; exact hp.map _
  have hTSl : (pre.map fun x => tmOf (placesE es) (x.1, keysM M x.1)).length ≤ 40004000 := by rw [yaf]; omega
  generalize pre.map (fun x => tmOf (placesE es) (x.1, keysM M x.1)) = TS at *
  obtain ⟨aT, cT, eT⟩ := zab ot2
  have hs0 : hs.v = .slice hs.a hs.n hs.c := rfl
  rw [hs0] at eT
  obtain ⟨sa, sn, sc⟩ := hs
  dsimp only at eT hs0
  injection eT with eT1 eT2 eT3
  subst eT1 eT2 eT3
  have a2 := vs2.at
  have q2 := Yb w2 n_
  have d2 := (hd.keep hKq (show ¬ sb + 1 + 1 = sb by omega)).keep k2 id
  have K2 : Kp w w2 n_ := Kwq.trans0 k2
  have zr2 : wr.heap.size + 1 ≤ w2.heap.size := OM
  have hsz := ht.sz
  have hbuilt : ∀ ts : List Trm, ts.Perm TS → (ts.Pairwise fun a b => ltK b.key a.key = false) → Built ⟨ts, sortL (mD.map (·.1))⟩ es := fun ts h1 h2 => by
   refine zlX hkep (fun e he => by have := htxk e he; omega) (m.map fun x => (x.1, keysM M x.1)) (by rw [ybe]; exact ht.nd) (fun k hk d => ?_) (fun p hp => ?_) (h1.trans hTSp) h2 hd.2.1 hd.2.2.1
   ·rw [ybe] at hk
    have hg : GM.get m k = none := zfg.2 hk
    rw [ht.gt] at hg
    refine ht.rn k d ?_
    unfold rowM
    rw [Option.map_eq_none_iff.1 hg]; rfl
   obtain ⟨⟨k, v⟩, hkv, rfl⟩ := yay.1 hp
   have hget := zjL ht.nd hkv
   rw [ht.gt] at hget
   obtain ⟨⟨ob, gm⟩, hM, rfl⟩ := ybk.1 hget
   have hkm : keysM M k = gm.map (·.1) := by unfold keysM; rw [hM]
   have hrm : ∀ d, rowM M k d = GM.get gm d := fun d => by unfold rowM; rw [hM]; rfl
   dsimp only
   rw [hkm]
   refine ⟨(ht.ob _ _ hM).2.2.1, fun e => hf _ _ hM (List.map_eq_nil_iff.1 e), fun d => ⟨fun h => ?_, fun h => ?_⟩⟩
   ·cases hq : GM.get gm d with
    | none => exact absurd h (zfg.1 hq)
    | some v => exact (ht.rw k d v ((hrm d).trans hq)).2
   cases hq : GM.get gm d with
   | none => exact absurd (ht.rn k d ((hrm d).trans hq)) h
   | some v => exact yay.2 ⟨_, get_mem hq, rfl⟩
  have hdl : mD.length ≤ 1000 := by have := hd.2.2.2; omega
  clear hTSp hp ht hf hd hh hKq hg Kwq plen k2 vs ot htq htx hkep htxk
  refine KGO ?_
  refine Ya (Tryz.call143 _ _) (zuw (w := w2) (B := wr.heap.size + 1) TS ot2 OM) ?_
  rintro e w3 ⟨rfl, ts, hperm, hpw, o3, k3⟩
  have hB := hbuilt ts hperm hpw
  have hoV : ∀ q, own_ (.slice sa TS.length sc) q → wr.heap.size + 1 ≤ q := fun q e => by
   obtain ⟨_, _, _, hBq, _⟩ := zat ot2 e; exact hBq
  have vs3 := vs2.keep k3 (zac ot2 vs2 (by decide))
  have d3 := d2.keep k3 (fun e => by have := hoV _ e; omega)
  have K3 : Kp w w3 n_ := K2.trans k3 (fun q hq e => by have := hoV _ e; omega)
  clear hbuilt hperm hpw ot2 vs2 d2 a2 q2
  refine RT ?_
  refine KGO ?_
  refine Ya (Tryz.call145 _ _) (mk_B (w := w3) (mb := sb + 1 + 1)) ?_
  rintro e w4 ⟨b4, rfl, v4, k4⟩
  refine RT ?_
  refine KGO ?_
  refine Ya (Tryz.call140 _ _) (zrX (w := w4) (fun _ _ => rfl) (zsW v4 (d3.1.keep k4 id)) (by have := d3.1.g.lt; have := k4.size; omega) (by rw [yaf]; omega)) ?_
  rintro e w5 ⟨v5, rfl, o5, k5⟩
  obtain ⟨a5, c5, rfl⟩ := zab o5
  have k35 := k4.trans0 k5
  have vs5 := vs3.keep0 k35
  have o35 := own_keep0 o3 k35
  refine RT ?_
  refine KGO ?_
  refine Yd (i := 1) vs5 (by simp) (by rfl) ⟨rfl, by simp, by simp⟩ fun w6 v6 k6 => ?_
  have v6 : VarK w6 sb 65 [.slice sa TS.length sc, .slice a5 (sortL (mD.map (·.1))).length c5] := v6
  have a6 := v6.at
  have q6 := Yb w6 n_
  refine KGO ?_
  refine Yi (P := Tryz.prog) (t := 65) [.slice sa TS.length sc, .slice a5 (sortL (mD.map (·.1))).length c5] v6 (by rfl) rfl (zak (by rfl)) fun w7 v7 k7 => ?_
  have a7 := v7.at
  have q7 := Yb w7 n_
  refine KGO ?_
  refine GW ?_
  have nd6 : ∀ D : List TypeId, 65 ∉ D → ∀ q, q < w5.heap.size → one_ sb q → notD D w5 q := fun D hD => zag vs5 hD
  have nd7 : ∀ D : List TypeId, 65 ∉ D → ∀ q, q < w6.heap.size → one_ sb q → notD D w6 q := fun D hD => zag v6 hD
  have of1 := zad (D := [141]) (zad (D := [141]) o35 k6 (nd6 _ (by decide)) (by decide)) k7 (nd7 _ (by decide)) (by decide)
  have of2 := zad (D := [3]) (zad (D := [3]) o5 k6 (nd6 _ (by decide)) (by decide)) k7 (nd7 _ (by decide)) (by decide)
  have z3 := k3.size
  have z4 := k4.size
  exact ⟨⟨⟨sa, TS.length, sc⟩, ⟨a5, _, c5⟩⟩, ⟨ts, sortL (mD.map (·.1))⟩, rfl, ⟨own_base of1 OM, own_base of2 OM⟩, hB, ((K3.trans0 k35).trans k6 fun q hq e => by have e : q = sb := e; omega).trans k7 fun q hq e => by have e : q = sb := e; omega⟩
 subst hl
 obtain ⟨ky, vm⟩ := p
 have hmem : (ky, vm) ∈ m := (hp.mem_iff).1 (by simp)
 have hget := zjL ht.nd hmem
 rw [ht.gt] at hget
 obtain ⟨⟨ob, gm⟩, hM, rfl⟩ := ybk.1 hget
 have ht2 := htq.keep k2 (fun e => by have e : sb + 1 + 1 + 1 = rb := e; have := ht.mp.g.lt; omega) (fun q hq hB e => by
  have e : q = rb := e
  obtain ⟨es, cl, s, _, h2, _⟩ := hg
  rw [e]
  exact ⟨(fun es cl h => by rw [h2] at h; cases h), (fun cs z h => by rw [h2] at h; cases h)⟩)
 have vs2 := vs.keep k2 (fun e => by have e : sb = rb := e; have := ht.sz; omega)
 have ot2 := own_keep ot k2 (fun q hq e => by
  have e : q = rb := e
  obtain ⟨_, _, _, hB, _⟩ := zat ot hq
  omega)
 unfold valM
 dsimp only
 refine KGO ?_
 refine Ye hent ?_
 refine KGO ?_
 have v12 := Yk w2 164 (kyC ky)
 refine Yg (vs := kyC ky) (by rfl) rfl (zak (by rfl)) ?_
 obtain ⟨a_b12, k_w3, z_w3⟩ := new3 w2 164 (kyC ky)
 generalize w2.alloc (.cells (List.toArray (kyC ky)) 164) = w3 at *
 generalize hs_b12 : w2.heap.size = b12 at *
 have hob := (ht2.ob _ _ hM).2.1
 dsimp only at hob
 have hob3 := hob.keep k_w3 id
 refine KGO ?_
 refine Ya (Tryz.call141 _ _) (mk_L (w := w3) (mb := ob)) ?_
 rintro e w4 ⟨b4, rfl, v4, k4⟩
 refine RT ?_
 refine KGO ?_
 have hgl : gm.length ≤ es.length := by
  have h1 := (ht2.ob _ _ hM).2.2.1
  have h2 := zbr (gm.map (·.1)) (es.map (·.doc)) h1 fun d hd => by
   obtain ⟨v, hv⟩ : ∃ v, GM.get gm d = some v := by
    cases hq : GM.get gm d with
    | some v => exact ⟨v, rfl⟩
    | none => exact absurd hd (zfg.1 hq)
   have hne := (ht2.rw ky d v (by unfold rowM; rw [hM]; exact hv)).2
   obtain ⟨e, he, h3, _⟩ := zbw hkep ky d hne
   exact yay.2 ⟨e, he, h3⟩
  rw [yaf, yaf] at h2; exact h2
 refine Ya (Tryz.call140 _ _) (zrX (w := w4) (fun _ _ => rfl) (zqn v4 (hob3.keep k4 id)) (by have := hob3.g.lt; have := k4.size; omega) (by rw [yaf]; omega)) ?_
 rintro e w5 ⟨v5, rfl, o5, k5⟩
 have hPG : postG (placesE es) (ky, keysM M ky) = (sortL (gm.map (·.1))).map fun d => (⟨d, placesE es ky d⟩ : Pst) := by unfold postG keysM; rw [hM]
 have hDl : (sortL (gm.map (·.1))).length = gm.length := by rw [yba, yaf]
 unfold sortL at hPG hDl
 generalize (List.mergeSort (gm.map (·.1)) fun x y => decide (x ≤ y)) = D at *
 have hD1 : D.length ≤ 1000 := OM
 obtain ⟨a5, c5, rfl⟩ := zab o5
 have k25 := (k_w3.trans0 k4).trans0 k5
 have ht5 := ht2.keep0 k25
 have hob5 := hob.keep k25 id
 have vs5 := vs2.keep0 k25
 have ot5 := own_keep0 ot2 k25
 have v125 := (v12.keep0 k4).keep0 k5
 have hr5 := hr2.keep k25 id id
 have Kq5 : Kp wq w5 (one_ rb) := k2.trans' k25.of_none
 have z5 := k25.size
 have hb12 : sb < b12 := by have := ht2.sz; omega
 clear ht2 hob hob3 vs2 ot2 v12 hr2 k_w3 k4 k5 v4 htq k2 vs ot hg a_b12 k25
 refine RT ?_
 refine KGO ?_
 refine Yc (ι := Nat × Option Addr × Nat × List Pr) (fun p => [(2, .pointer (some ⟨sb, 0, none⟩)), (4, .map (some (sb + 1 + 1))), (12, .pointer (some ⟨b12, 0, none⟩)), (13, .map (some ob)), (14, .slice p.2.1 p.2.2.2.length p.2.2.1), (81, .pointer (some ⟨rb, 0, none⟩)), (89, .slice a5 D.length c5), (90, .int .i64 (D.length : Nat)), (91, .int .i64 (p.1 : Nat))])
  (fun p wv => Kp w5 wv n_ ∧ p.1 ≤ D.length ∧ OwnR 44 prC 2 wv w5.heap.size (.slice p.2.1 p.2.2.2.length p.2.2.1) p.2.2.2 ∧ p.2.2.2.map (·.p) = (D.take p.1).map (fun d => (⟨d, placesE es ky d⟩ : Pst)) ∧ ∀ x ∈ p.2.2.2, RowI w5 x.h.v x.p.places ∧ CapK x.h.v) (fun p => D.length - p.1) (0, none, 0, [])
  FR ⟨Yb _ _, yal _, World.ownsRow_nil _ _ _ _, rfl, fun x hx => by cases hx⟩ ?_
 rintro ⟨j, ap, cp, lx⟩ gg3 wv ⟨hKv, hj, op, hlx, hpl⟩
 dsimp only at hj op hlx hpl ⊢
 have hll : lx.length = j := by have := congrArg List.length hlx; rw [yaf, yaf, yar] at this; omega
 refine GW ?_
 by_cases hjt : j < D.length
 ·have o5v := own_keep0 o5 hKv
  obtain ⟨g5, e5, _, _, hat5⟩ := zdY o5v OM
  obtain rfl := e5
  have cj := zaJ hat5 hjt
  have hrw := ht5.row hM D[j]
  obtain ⟨vr, hvr⟩ : ∃ vr, (GM.get gm D[j]).getD (.slice none 0 0) = vr := ⟨_, rfl⟩
  rw [hvr] at hrw
  obtain ⟨ar, cr, er⟩ := zab hrw
  subst er
  refine KGO ?_
  refine Yn okKI Tryz.underlying165 (by rfl) (hob5.keep hKv id).g D[j] rfl ?_
  rw [hvr]
  refine KGO ?_
  refine Ye (zmj _ _ _ _ _) ?_
  refine KGO ?_
  refine Ye (bs1P ⟨⟨D[j], placesE es ky D[j]⟩, ⟨ar, (placesE es ky D[j]).length, cr⟩⟩ _) ?_
  obtain ⟨a_b14, v_b14, k_wx, z_wx, r_wx⟩ := new5 wv 44 (prC ⟨⟨D[j], placesE es ky D[j]⟩, ⟨ar, (placesE es ky D[j]).length, cr⟩⟩)
  generalize wv.alloc (.cells (List.toArray (prC ⟨⟨D[j], placesE es ky D[j]⟩, ⟨ar, (placesE es ky D[j]).length, cr⟩⟩)) 44) = wx at *
  generalize hs_b14 : wv.heap.size = b14 at *
  have opx := own_keep0 op k_wx
  refine KGO ?_
  refine tyP.app1 (⟨⟨D[j], placesE es ky D[j]⟩, ⟨ar, (placesE es ky D[j]).length, cr⟩⟩ : Pr) opx (by have := hKv.size; omega) a_b14 OM OM fun v6 w6 o6 k6 => ?_
  have K6 := zav opx k6 (hKv.trans0 k_wx) (yag _)
  obtain ⟨a6, c6, rfl⟩ := zab o6
  refine KGO ?_
  refine ⟨(j + 1, a6, c6, lx ++ [⟨⟨D[j], placesE es ky D[j]⟩, ⟨ar, (placesE es ky D[j]).length, cr⟩⟩]), FR, ⟨K6, DO, o6, ?_, fun x hx => ?_⟩, DO⟩
  ·dsimp only
   rw [yaL, hlx, yad hjt, yaL]; rfl
  rcases yaj.1 hx with hx | hx
  ·exact hpl x hx
  rw [yac.1 hx]
  exact ⟨own_rowO hrw, own_capK hrw⟩
 obtain rfl : j = D.length := OM
 rw [yaD, ← hPG] at hlx
 have kvd := hKv
 have vsv := vs5.keep0 hKv
 have otv := own_keep0 ot5 hKv
 have v12v := v125.keep0 hKv
 have htv := ht5.keep0 hKv
 have hrv := hr5.keep hKv id id
 have hKs : Kp wq wv (one_ rb) := Kq5.trans' hKv.of_none
 have hrow : RowP wv (.slice ap lx.length cp) (postG (placesE es) (ky, keysM M ky)) := ⟨lx, hlx, own_rowO op, fun x hx => (hpl x hx).1.keep hKv, own_capK op, fun x hx => (hpl x hx).2⟩
 have hPl : (postG (placesE es) (ky, keysM M ky)).length ≤ 1000 := by rw [← hlx, yaf]; omega
 have hPp : ∀ p ∈ postG (placesE es) (ky, keysM M ky), p.places.length ≤ 20001 := fun p hp => by
  rw [hPG] at hp
  obtain ⟨d, hd, rfl⟩ := yay.1 hp
  dsimp only
  by_cases hz : placesE es ky d = []
  ·rw [hz]; exact yal _
  obtain ⟨e, he, _, _, h3, _⟩ := zbw hkep ky d hz
  rw [h3]
  have h4 := zhD ky.2 0 (wordsOf e.text)
  have h5 := zbn e.text
  have h6 := htxk e he
  omega
 have hPc := znM 20001 _ hPp
 unfold cntP at hPc
 have hPc : (encN 0 (postG (placesE es) (ky, keysM M ky))).length ≤ 20003000 := yaw hPc (yaw (yaV _ hPl) (by decide))
 generalize hTS : pre.map (fun x => tmOf (placesE es) (x.1, keysM M x.1)) = TS at *
 have hTSl : TS.length ≤ 40004000 := by rw [← hTS, yaf]; omega
 have htm : tmOf (placesE es) (ky, keysM M ky) = ⟨ky.1, ky.2, encP (postG (placesE es) (ky, keysM M ky))⟩ := rfl
 generalize postG (placesE es) (ky, keysM M ky) = PG at *
 obtain ⟨aT, cT, eT⟩ := zab otv
 have hs0 : hs.v = .slice hs.a hs.n hs.c := rfl
 rw [hs0] at eT
 obtain ⟨sa, sn, sc⟩ := hs
 dsimp only at eT hs0
 injection eT with eT1 eT2 eT3
 subst eT1 eT2 eT3
 clear hPG hlx hpl hPp o5 op vs5 ot5 v125 ht5 hr5 Kq5 hob5
 refine KGO ?_
 have kd4 := (Yb wv n_).drew
 refine Yh (fun u => Kp wv u (own_ (.slice sa TS.length sc))) (fun _ => true) (by simp) (by decide +kernel) (by decide +kernel) kd4.of_none ?_
 refine GW ?_
 refine KGO ?_
 refine Yf (by rfl) (fun u hu => (vsv.keep hu (zac otv vsv (by decide))).at 0 _ rfl) ?_
 refine KGO ?_
 refine Yf (by rfl) (fun u hu => (v12v.keep hu (zac otv v12v (by decide))).at 0 _ rfl) ?_
 refine KGO ?_
 refine Yf (by rfl) (fun u hu => (v12v.keep hu (zac otv v12v (by decide))).at 1 _ rfl) ?_
 refine KGO ?_
 refine Ya (Tryz.call142 _ _) (zdZ (w := wv.drew) PG (hrow.keep kd4) OM (fun p hp => by have := zbj _ p hp; omega) OM) ?_
 rintro e u5 ⟨rfl, k5⟩
 have k45 : Kp wv u5 n_ := kd4.trans0 k5
 refine RT ?_
 refine ⟨k45.of_none, ?_⟩
 refine KGO ?_
 refine Ye (zig _ _ _ _) ?_
 refine KGO ?_
 refine Ye (bs1Tm ⟨ky.1, ky.2, encP PG⟩ _) ?_
 obtain ⟨a_b14, v_b14, k_u6, z_u6, r_u6⟩ := new5 u5 141 (tmC ⟨ky.1, ky.2, encP PG⟩)
 generalize u5.alloc (.cells (List.toArray (tmC ⟨ky.1, ky.2, encP PG⟩)) 141) = u6 at *
 generalize hs_b14 : u5.heap.size = b14 at *
 have k46 := k45.trans0 k_u6
 have i36 := own_keep0 otv k46
 have i26 := vsv.keep0 k46
 have z6 := k46.size
 refine ⟨k46.of_none, ?_⟩
 refine KGO ?_
 refine tyTm.app1 (⟨ky.1, ky.2, encP PG⟩ : Trm) i36 (by have := hKs.size; omega) a_b14 OM OM fun v7 u7 o7 k7 => ?_
 have i27 := i26.keep k7 (zac i36 i26 (by decide))
 obtain ⟨a7, c7, rfl⟩ := zab o7
 have J7 : Kp wv u7 (own_ (.slice sa TS.length sc)) := (k46.of_none).trans' k7
 refine ⟨J7, ?_⟩
 refine KGO ?_
 refine Yd (i := 0) i27 (by simp) (by rfl) ⟨rfl, by simp, by simp⟩ fun u8 v8 k8 => ?_
 have o8 := zad (D := [141]) o7 k8 (zag i27 (by decide)) (by decide)
 have J8 : Kp wv u8 (fun q => own_ (.slice sa TS.length sc) q ∨ q = sb) := (J7.mono fun q _ e => .inl e).trans' (k8.mono fun q _ e => .inr e)
 have hoV : ∀ q, own_ (.slice sa TS.length sc) q → wr.heap.size + 1 ≤ q := fun q e => by
  obtain ⟨_, _, _, hBq, _⟩ := zat otv e; exact hBq
 have htb := ht.mp.g.lt
 have hsz := ht.sz
 have r8 := hrv.keep J8 (fun e => by rcases e with e | e; have := hoV _ e; omega; omega) (fun e => by rcases e with e | e; have := hoV _ e; omega; omega)
 have K8 : Kp wr u8 (one_ sb) := (hKq.trans (c := one_ sb) hKs fun q hq e => by have e : q = rb := e; omega).trans J8 fun q hq e => by
  rcases e with e | e
  ·have := hoV _ e; omega
  exact e
 have z8 := J8.size
 have zv := hKs.size
 have hlen8 : (TS ++ [(⟨ky.1, ky.2, encP PG⟩ : Trm)]) = (pre ++ [(ky, valM (ob, gm))]).map (fun x => tmOf (placesE es) (x.1, keysM M x.1)) := by
  rw [yaL, hTS, ← htm]; rfl
 refine KGO ?_
 refine ⟨(pre ++ [(ky, valM (ob, gm))], pa ++ po, ⟨a7, _, c7⟩), FR, ⟨K8, OM, r8, ?_, v8, by dsimp only; rw [← hlen8]; exact o8⟩, by simp⟩
 refine List.Perm.trans ?_ hp
 rw [yap, List.singleton_append]
 exact List.Perm.append_left pre List.perm_middle.symm
end
end Go.Proofs.YtennokckmjcefaaGreatDoor
