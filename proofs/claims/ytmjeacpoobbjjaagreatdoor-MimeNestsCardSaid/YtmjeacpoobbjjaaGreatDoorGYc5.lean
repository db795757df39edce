/- Helper lemmas that the proved statement rests on; no conditions of their own. -/
import Derived.Test.YtmjeacpoobbjjaaGreatDoorGYc2
set_option linter.unusedVariables false
set_option maxHeartbeats 8000000
set_option maxRecDepth 100000
namespace Go.Proofs.YtmjeacpoobbjjaaGreatDoor
open Go.Shelf Go.RowKit Go.Pw Go.Vc Go.Cs Go.Lib Go.Tk Go.Hd Go.Ty
theorem zea {nm : List UInt8} {t : Tkn} {r : List Tkn} (h : t.1 ≠ 1 ∨ (Lib.cut t.2 [61]).2.2 = false) : pairC nm (t :: r) = pairC (nm ++ t.2) r := by
 conv => lhs; unfold pairC
 rw [if_pos h]
theorem zjn {nm : List UInt8} {t u : Tkn} {r : List Tkn} (h1 : t.1 = 1) (h2 : (Lib.cut t.2 [61]).2.2 = true) (h3 : (Lib.cut t.2 [61]).2.1 = []) (h4 : u.1 = 2) : pairC nm (t :: u :: r) = (smallH (nm ++ (Lib.cut t.2 [61]).1), valueT u) := by
 conv => lhs; unfold pairC
 rw [if_neg (by rw [h1, h2]; simp), if_pos ⟨h3, by show some u.1 = some 2; rw [h4]⟩]
 rfl
theorem zhs {nm : List UInt8} {t : Tkn} {r : List Tkn} (h1 : t.1 = 1) (h2 : (Lib.cut t.2 [61]).2.2 = true) (h3 : ¬ ((Lib.cut t.2 [61]).2.1 = [] ∧ (r.head?.map (·.1)) = some 2)) : pairC nm (t :: r) = (smallH (nm ++ (Lib.cut t.2 [61]).1), (Lib.cut t.2 [61]).2.1 ++ joinT r) := by
 conv => lhs; unfold pairC
 rw [if_neg (by rw [h1, h2]; simp), if_neg h3]
theorem zfv (l : List Tkn) (i : Nat) (h : i < l.length) : (joinT (l.take i)).length + l[i].2.length + (joinT (l.drop (i + 1))).length = (joinT l).length := by
 have e : joinT l = joinT (l.take i) ++ (l[i].2 ++ joinT (l.drop (i + 1))) := by
  conv => lhs; rw [← List.take_append_drop i l, List.drop_eq_getElem_cons h]
  unfold joinT
  rw [List.flatMap_append, List.flatMap_cons]
 rw [e, List.length_append, List.length_append]; omega
theorem at_hd {α : Type} {w : World} {c : α → List Value} {g o : Nat} {x : α} {xs : List α} (h : At w g o ((x :: xs).flatMap c)) : At w g o (c x) := fun j u hj => h j u (by rw [List.flatMap_cons, List.getElem?_append_left (List.getElem?_eq_some_iff.1 hj).1]; exact hj)
theorem zcS {α : Type} {w : World} {c : α → List Value} {s g o cp i : Nat} {l : List α} (hs : ∀ x, (c x).length = s) (h : At w g o (l.flatMap c)) (hg : g < w.heap.size) (hc : l.length ≤ cp) (hi : i ≤ l.length) :
  RowO w (.slice (some ⟨g, if i = cp then o else o + i * s, none⟩) (l.length - i) (cp - i)) c (l.drop i) :=
 ⟨_, _, by rw [List.length_drop], fun h0 => ⟨g, _, rfl, hg, by
  rw [List.length_drop] at h0
  rw [if_neg (by omega)]
  exact zcM hs h i⟩⟩
section
variable {w : World}
theorem zkR {v : Value} (l : List Tkn) (hr : RowO w v tkC l) (hcp : CapK v) (hm : MaxL w) (hl : l.length ≤ 100000000) (hj : (joinT l).length ≤ 100000000) : Calls Tryz.prog 112 #[v] w fun e w' => e = .returned (.tuple #[.string (str (pairC [] l).1), .string (str (pairC [] l).2)]) ∧ Kp w w' n_ := by
 obtain ⟨a, cap, rfl, hr⟩ := hr
 have hcq := hcp _ _ _ rfl
 clear hcp
 refine zaa (args := [.slice a l.length cap]) Tryz.func112 rfl NL ?_; refine GW ?_
 refine Loop.intro (ι := Nat × List UInt8) (fun i => [(0, .slice a l.length cap), (4, .string (str i.2)), (10, .slice a l.length cap), (11, .int .i64 (l.length : Nat)), (12, .int .i64 (i.1 : Nat))])
  (fun i wr => Kp w wr n_ ∧ i.1 ≤ l.length ∧ pairC i.2 (l.drop i.1) = pairC [] l ∧ i.2.length ≤ (joinT (l.take i.1)).length) (fun i => l.length - i.1) (0, []) ⟨rfl, rfl, rfl, rfl, rfl, trivial⟩
  ⟨Kp.refl _ _, Nat.zero_le _, rfl, Nat.zero_le _⟩ ?_
 rintro ⟨i, nm⟩ g wr ⟨hK, hi, he, hn⟩
 dsimp only at hi he hn ⊢
 refine GW ?_
 by_cases hlt : i < l.length
 ·obtain ⟨gb, o, rfl, hgb, hat⟩ := hr (by omega)
  have hat := zar hat hK
  have q0 := Kp.refl wr n_
  refine KGO ?_
  have hjc := zfv l i hlt
  have hsn := zed l i hlt
  have hdr := List.drop_eq_getElem_cons hlt
  obtain ⟨T, hT⟩ : ∃ T : Tkn, T = l[i] := ⟨_, rfl⟩
  rw [← hT] at hsn hjc hdr ⊢
  rw [hdr] at he
  obtain ⟨a_b1, v_b1, k_w1, z_w1, r_w1⟩ := new5 wr 82 ([.int .i64 0, .string ⟨#[]⟩])
  generalize wr.alloc (.cells (List.toArray ([.int .i64 0, .string ⟨#[]⟩])) 82) = w1 at *
  generalize hs_b1 : wr.heap.size = b1 at *
  refine KGO ?_
  refine SVK (tkC T) v_b1 fun w3 v3 k3 => ?_
  have kr3 := zab k_w1 k3 (by omega)
  have K3 := hK.trans0 kr3
  have a3 : At w3 b1 0 [.int .i64 (T.1 : Nat), .string (str T.2)] := v3.at
  have r3 := Kp.refl w3 n_
  refine KGO ?_
  refine CallS.of (Tryz.call66 _ _) (s_cut (str T.2) ⟨#[61]⟩ w3 (hm.keep K3) (by rw [zae]; omega)) ?_
  rintro e w4 ⟨rfl, k4⟩
  rw [L_str, show L ⟨#[61]⟩ = [61] from rfl]
  have K4 := K3.trans0 k4
  have hc1 := zdK T.2 [61]
  have hc2 := fun h => ziz (s := T.2) (p := [61]) h
  have a4 : At w4 b1 0 [.int .i64 (T.1 : Nat), .string (str T.2)] := (v3.keep0 k4).at
  have q4 := Kp.refl w4 n_
  refine RT ?_
  by_cases h1 : T.1 = 1
  ·cases hok : (Lib.cut T.2 [61]).2.2
   ·rw [zea (.inr hok)] at he
    refine KGO ?_
    refine RunV.cat (by rw [zae, zae]; omega) ?_
    rw [zaF]
    refine KGO ?_
    exact ⟨(i + 1, nm ++ T.2), ⟨rfl, rfl, rfl, rfl, v_int (by simp), trivial⟩, ⟨K4, hlt, he, by dsimp only; rw [hsn, List.length_append, List.length_append]; omega⟩, by dsimp only; omega⟩
   ·have hc2 := hc2 hok
    have hjv := @zjn nm T
    have hjj := @zhs nm T (l.drop (i + 1)) h1 hok
    have kr4 := kr3.trans0 k4
    have hat4 := zar hat kr4
    rw [List.length_singleton] at hc2
    generalize Lib.cut T.2 [61] = C at *
    obtain ⟨C1, C2, C3⟩ := C
    dsimp only at hok hc1 hc2 hjv hjj ⊢
    subst hok
    refine KGO ?_
    refine RunV.cat (by rw [zae, zae]; omega) ?_
    rw [zaF]
    have hNl : (nm ++ C1).length ≤ 100000000 := by rw [List.length_append]; omega
    obtain ⟨N, hN⟩ : ∃ N, N = nm ++ C1 := ⟨_, rfl⟩
    rw [← hN] at hNl hjv hjj ⊢
    cases C2 with
    | nil =>
     by_cases h2 : i + 1 < l.length
     ·have hd1 := List.drop_eq_getElem_cons h2
      obtain ⟨U, hU⟩ : ∃ U : Tkn, U = l[i + 1] := ⟨_, rfl⟩
      have hUl := zfv l (i + 1) h2
      rw [← hU] at hd1 hUl
      by_cases hu : U.1 = 2
      ·rw [hd1, hjv h1 rfl rfl hu] at he
       rw [← he]
       refine KGO ?_
       rw [← hU]
       refine KGO ?_
       have hU4 : At w4 gb (o + (i + 1) * 2) (tkC U) := at_hd (by have := zcM lenTk hat4 (i + 1); rw [hd1] at this; exact this)
       have kd4 := (Kp.refl w4 n_).drew
       have hltg : gb < w4.heap.size := Nat.lt_of_lt_of_le hgb K4.size
       refine Draw.heldEnd (fun u => Kp w4 u n_) (fun _ => true) (by simp) (by decide +kernel) (by decide +kernel) kd4 ?_
       refine GW ?_
       refine KGO ?_
       refine CallS.of (Tryz.call73 _ _) (zbd N hNl w4.drew) ?_
       rintro e w5 ⟨rfl, k5⟩
       have k45 := kd4.trans0 k5
       refine RT ?_
       refine ⟨k45, ?_⟩
       refine KGO ?_
       refine CallS.of (Tryz.call144 _ _) (zjY (w := w5) U (by omega)) ?_
       rintro e w6 ⟨rfl, k6⟩
       have k46 := k45.trans0 k6
       refine RT ?_
       refine ⟨k46, ?_⟩
       refine KGO ?_
       exact ⟨rfl, K4.trans0 k46⟩
      ·have hno : ¬ (([] : List UInt8) = [] ∧ ((l.drop (i + 1)).head?.map (·.1)) = some 2) := fun e => by
        rw [hd1] at e
        exact hu (by simpa using e.2)
       refine KGO ?_
       rw [← hU]
       refine KGO ?_
       rw [← he, hjj hno]
       have kd4 := (Kp.refl w4 n_).drew
       refine CallS.of (Tryz.call73 _ _) (zbd N hNl w4.drew) ?_
       rintro e w5 ⟨rfl, k5⟩
       have k45 := kd4.trans0 k5
       refine RT ?_
       refine KGO ?_
       rw [show ((i : Nat) : Int) + 1 = ((i + 1 : Nat) : Int) from rfl]
       refine KGO ?_
       have hrf := zcS lenTk (zar hat4 k45) (Nat.lt_of_lt_of_le hgb (K4.trans0 k45).size) hcq (show i + 1 ≤ l.length by omega)
       have hdl : (l.drop (i + 1)).length ≤ l.length := by rw [List.length_drop]; omega
       refine CallS.of (Tryz.call78 _ _) (zeN (w := w5) (l.drop (i + 1)) hrf (by omega) (by omega)) ?_
       rintro e w6 ⟨rfl, k6⟩
       refine RT ?_
       refine KGO ?_
       refine RunV.cat (by rw [zae, zae]; show (([] : List UInt8)).length + _ ≤ _; omega) ?_
       rw [zaF]
       refine KGO ?_
       exact ⟨rfl, (K4.trans0 k45).trans0 k6⟩
     ·have hno : ¬ (([] : List UInt8) = [] ∧ ((l.drop (i + 1)).head?.map (·.1)) = some 2) := fun e => by
       rw [List.drop_eq_nil_of_le (by omega)] at e
       cases e.2
      refine KGO ?_
      rw [← he, hjj hno]
      have kd4 := (Kp.refl w4 n_).drew
      refine CallS.of (Tryz.call73 _ _) (zbd N hNl w4.drew) ?_
      rintro e w5 ⟨rfl, k5⟩
      have k45 := kd4.trans0 k5
      refine RT ?_
      refine KGO ?_
      rw [show ((i : Nat) : Int) + 1 = ((i + 1 : Nat) : Int) from rfl]
      refine KGO ?_
      have hrf := zcS lenTk (zar hat4 k45) (Nat.lt_of_lt_of_le hgb (K4.trans0 k45).size) hcq (show i + 1 ≤ l.length by omega)
      have hdl : (l.drop (i + 1)).length ≤ l.length := by rw [List.length_drop]; omega
      refine CallS.of (Tryz.call78 _ _) (zeN (w := w5) (l.drop (i + 1)) hrf (by omega) (by omega)) ?_
      rintro e w6 ⟨rfl, k6⟩
      refine RT ?_
      refine KGO ?_
      refine RunV.cat (by rw [zae, zae]; show (([] : List UInt8)).length + _ ≤ _; omega) ?_
      rw [zaF]
      refine KGO ?_
      exact ⟨rfl, (K4.trans0 k45).trans0 k6⟩
    | cons c2 r2 =>
     refine KGO ?_
     rw [decide_eq_false zbQ]
     have hno : ¬ (c2 :: r2 = [] ∧ ((l.drop (i + 1)).head?.map (·.1)) = some 2) := fun e => by cases e.1
     refine KGO ?_
     rw [← he, hjj hno]
     have kd4 := (Kp.refl w4 n_).drew
     refine CallS.of (Tryz.call73 _ _) (zbd N hNl w4.drew) ?_
     rintro e w5 ⟨rfl, k5⟩
     have k45 := kd4.trans0 k5
     refine RT ?_
     refine KGO ?_
     rw [show ((i : Nat) : Int) + 1 = ((i + 1 : Nat) : Int) from rfl]
     refine KGO ?_
     have hrf := zcS lenTk (zar hat4 k45) (Nat.lt_of_lt_of_le hgb (K4.trans0 k45).size) hcq (show i + 1 ≤ l.length by omega)
     have hdl : (l.drop (i + 1)).length ≤ l.length := by rw [List.length_drop]; omega
     refine CallS.of (Tryz.call78 _ _) (zeN (w := w5) (l.drop (i + 1)) hrf (by omega) (by omega)) ?_
     rintro e w6 ⟨rfl, k6⟩
     refine RT ?_
     refine KGO ?_
     refine RunV.cat (by rw [zae, zae]; show ((c2 :: r2)).length + _ ≤ _; omega) ?_
     rw [zaF]
     refine KGO ?_
     exact ⟨rfl, (K4.trans0 k45).trans0 k6⟩
  ·rw [zea (.inl h1)] at he
   refine KGO ?_
   refine RunV.cat (by rw [zae, zae]; omega) ?_
   rw [zaF]
   refine KGO ?_
   exact ⟨(i + 1, nm ++ T.2), ⟨rfl, rfl, rfl, rfl, v_int (by simp), trivial⟩, ⟨K4, hlt, he, by dsimp only; rw [hsn, List.length_append, List.length_append]; omega⟩, by dsimp only; omega⟩
 ·have hdr : l.drop i = [] := List.drop_eq_nil_of_le (by omega)
  rw [hdr] at he
  rw [← he]
  refine KGO ?_
  exact ⟨rfl, hK⟩
end
def encSp (x : Spt) : Value := .agg (spC x).toArray
theorem spFields : ∃ a b c, (Tryz.prog.fieldsOf 135).toList = [a, b, c] ∧ a.name ≠ "_" ∧ b.name ≠ "_" ∧ c.name ≠ "_" ∧ a.type = 9 ∧ b.type = 3 ∧ c.type = 4 ∧ a.offset = 0 ∧ b.offset = 1 ∧ c.offset = 2 :=
 ⟨_, _, _, rfl, by decide, by decide, by decide, rfl, rfl, rfl, rfl, rfl, rfl⟩
theorem eq_sp (x y : Spt) (w : World) : (Op.equalIn (9999 + 1) 135 (encSp x) (encSp y)).run Tryz.prog w = .ok (decide (x = y)) w := by
 unfold encSp
 rw [run_equalIn_agg w 9999 135 _ _ (by rfl) (by kernel_rfl)]
 obtain ⟨a, b, c, hf, na, nb, nc, ta, tb, tc, oa, ob, oc⟩ := spFields
 rw [hf]
 simp only [Op.eqFields, na, nb, nc, ne_eq, not_false_eq_true, if_true, ta, tb, tc, oa, ob, oc]
 have p0 : (part 9 (spC x).toArray 0).run Tryz.prog w = .ok (.string (str x.1)) w := by rfl
 have p1 : (part 3 (spC x).toArray 1).run Tryz.prog w = .ok (.int .i64 x.2.1) w := by rfl
 have p2 : (part 4 (spC x).toArray 2).run Tryz.prog w = .ok (.bool x.2.2) w := by rfl
 have q0 : (part 9 (spC y).toArray 0).run Tryz.prog w = .ok (.string (str y.1)) w := by rfl
 have q1 : (part 3 (spC y).toArray 1).run Tryz.prog w = .ok (.int .i64 y.2.1) w := by rfl
 have q2 : (part 4 (spC y).toArray 2).run Tryz.prog w = .ok (.bool y.2.2) w := by rfl
 have i1 (a b : Int) : (Op.equalIn (9998 + 1) 3 (.int .i64 a) (.int .i64 b)).run Tryz.prog w = .ok (a == b) w := run_equalIn_int w 9998 3 .i64 .i64 a b (by rfl)
 have i2 (a b : Bool) : (Op.equalIn (9998 + 1) 4 (.bool a) (.bool b)).run Tryz.prog w = .ok (a == b) w := by rfl
 have s1 (a b : ByteArray) : (Op.equalIn (9998 + 1) 9 (.string a) (.string b)).run Tryz.prog w = .ok (a == b) w := by rfl
 simp only [Sem.run_bind, Sem.run_ite, p0, p1, p2, q0, q1, q2, i1, i2, s1, Result.andThen_ok]
 obtain ⟨x1, x2, x3⟩ := x
 obtain ⟨y1, y2, y3⟩ := y
 dsimp only
 rw [zdI]
 by_cases h1 : x1 = y1 <;> by_cases h2 : x2 = y2 <;> by_cases h3 : x3 = y3 <;> simp [h1, h2, h3, zaD]
theorem keySp : KeyOk Tryz.prog 135 encSp := zif Tryz.underlying135 (fun _ _ => rfl) (fun w a b => eq_sp a b w) (fun e k w => by
  show (Instr.checkKey e (9999 + 1) 135 (.agg (spC k).toArray)).run Tryz.prog w = _
  have p0 : (part 9 (spC k).toArray 0).run Tryz.prog w = .ok (.string (str k.1)) w := by rfl
  have p1 : (part 3 (spC k).toArray 1).run Tryz.prog w = .ok (.int .i64 k.2.1) w := by rfl
  have p2 : (part 4 (spC k).toArray 2).run Tryz.prog w = .ok (.bool k.2.2) w := by rfl
  have c0 : ∀ z, (Instr.checkKey e 9999 3 (.int .i64 z)).run Tryz.prog w = .ok () w := fun z => by
   show (Instr.checkKey e (9998 + 1) 3 _).run Tryz.prog w = _
   unfold Instr.checkKey
   simp [zat Tryz.underlying3]
  have c1 : ∀ s, (Instr.checkKey e 9999 9 (.string s)).run Tryz.prog w = .ok () w := fun s => by
   show (Instr.checkKey e (9998 + 1) 9 _).run Tryz.prog w = _
   unfold Instr.checkKey
   simp [zat Tryz.underlying9]
  have c2 : ∀ s, (Instr.checkKey e 9999 4 (.bool s)).run Tryz.prog w = .ok () w := fun s => by
   show (Instr.checkKey e (9998 + 1) 4 _).run Tryz.prog w = _
   unfold Instr.checkKey
   simp [zat Tryz.underlying4]
  unfold Instr.checkKey
  simp [zat Tryz.underlying135, p0, p1, p2, c0, c1, c2]) (fun k => by simp [encSp, spC, Instr.sameBits, zdI])
def pmG (p : PM) : GM Spt := p.map fun x => (x.1, .string (str x.2))
def fmG (f : FM) : GM Spt := f.map fun x => (x.1, .bool x.2)
theorem zcG (k : Spt) : ∀ p : PM, (pmG p).get k = (lk p k).map fun v => .string (str v)
 | [] => rfl
 | (s, v) :: r => by
  show GM.get ((s, .string (str v)) :: pmG r) k = _
  unfold GM.get lk
  by_cases h : k = s
  ·rw [if_pos h, if_pos h]; rfl
  ·rw [if_neg h, if_neg h, zcG k r]
theorem zdg (k : Spt) : ∀ f : FM, (fmG f).get k = (lk f k).map fun v => .bool v
 | [] => rfl
 | (s, v) :: r => by
  show GM.get ((s, .bool v) :: fmG r) k = _
  unfold GM.get lk
  by_cases h : k = s
  ·rw [if_pos h, if_pos h]; rfl
  ·rw [if_neg h, if_neg h, zdg k r]
section
variable {w : World}
def gotV (o : Option (List UInt8 × Bool)) : Value :=
 match o with
 | none => .tuple #[.string ⟨#[]⟩, .bool false, .bool false]
 | some (v, b) => .tuple #[.string (str v), .bool b, .bool true]
theorem ziJ {mp mf : Nat} {p : PM} {f : FM} (n : List UInt8) (k : Int) (hp : GMap encSp w mp (pmG p)) (hf : GMap encSp w mf (fmG f)) : Calls Tryz.prog 148 #[.map (some mp), .string (str n), .int .i64 k, .map (some mf)] w fun e w' => e = .returned (gotV (getC p f n k)) ∧ Kp w w' n_ := by
 have hg : getC p f n k = match lk f (n, k, false) with | none => none | some w => some ((lk p (n, k, w)).getD [], w) := rfl
 refine zaa (args := [.map (some mp), .string (str n), .int .i64 k, .map (some mf)]) Tryz.func148 rfl NL ?_; refine GW ?_
 refine RunV.of (zcN (str n) k _) ?_
 refine KGO ?_
 refine RunV.lookG2 keySp Tryz.underlying130 (by rfl) hf (n, k, false) rfl ?_
 rw [zdg]
 cases hl : lk f (n, k, false) with
 | none =>
  rw [hg, hl]
  dsimp only [Option.map, Option.getD, Option.isSome]
  refine KGO ?_
  exact ⟨rfl, Kp.refl _ _⟩
 | some b =>
  rw [hg, hl]
  dsimp only [Option.map, Option.getD, Option.isSome]
  refine KGO ?_
  refine RunV.of (zdx (str n) k b _) ?_
  refine KGO ?_
  refine RunV.lookG keySp Tryz.underlying129 (by rfl) hp (n, k, b) rfl ?_
  rw [zcG]
  have hv : ((lk p (n, k, b)).map fun v => Value.string (str v)).getD (.string ⟨#[]⟩) = .string (str ((lk p (n, k, b)).getD [])) := by cases lk p (n, k, b) <;> rfl
  rw [hv]
  refine KGO ?_
  exact ⟨rfl, Kp.refl _ _⟩
end
theorem zhn {p : PM} {k : Spt} {v : List UInt8} {M : Nat} (h : ∀ x ∈ p, x.2.length ≤ M) (hk : lk p k = some v) : v.length ≤ M := by
 induction p with
 | nil => cases hk
 | cons x r ih =>
  obtain ⟨s, u⟩ := x
  unfold lk at hk
  split at hk
  ·injection hk with hk; rw [← hk]; exact h _ List.mem_cons_self
  ·exact ih (fun y hy => h y (List.mem_cons_of_mem _ hy)) hk
theorem zck {p : PM} {f : FM} {n v : List UInt8} {k : Int} {b : Bool} {M : Nat} (h : ∀ x ∈ p, x.2.length ≤ M) (hk : getC p f n k = some (v, b)) : v.length ≤ M := by
 unfold getC at hk
 split at hk
 ·cases hk
 ·injection hk with hk
  injection hk with h1 h2
  rw [← h1]
  cases hl : lk p (n, k, _) with
  | none => exact Nat.zero_le _
  | some u => exact zhn h hl
theorem zbL (s : List UInt8) : (splitC s).1.length ≤ s.length ∧ (splitC s).2.length ≤ s.length := by
 have h1 := zdK s [39]
 have h2 := zdK (Lib.cut s [39]).2.1 [39]
 unfold splitC
 split
 ·exact ⟨h1.1, Nat.le_trans h2.2 h1.2⟩
 ·exact ⟨Nat.zero_le _, Nat.le_refl _⟩
def valV (o : Option (List UInt8)) : Value :=
 match o with
 | none => .tuple #[.string ⟨#[]⟩, .bool false]
 | some v => .tuple #[.string (str v), .bool true]
section
variable {w : World}
theorem zdo (p : PM) (f : FM) (n : List UInt8) (m i : Nat) : sectC p f n (m + 1) i = match getC p f n (i : Int) with | none => [] | some (v, w) => (if w = true then openC v else v) ++ sectC p f n m (i + 1) := rfl
theorem zjV {mp mf : Nat} {p : PM} {f : FM} (n : List UInt8) (hT : Tabs w) (hm : MaxL w) (hp : GMap encSp w mp (pmG p)) (hf : GMap encSp w mf (fmG f)) (hl : ∀ x ∈ p, x.2.length ≤ 1000000) : Calls Tryz.prog 114 #[.map (some mp), .string (str n), .map (some mf)] w fun e w' => e = .returned (valV (valueC p f n)) ∧ Kp w w' n_ := by
 have hv : valueC p f n = match getC p f n 0 with | none => (match lk p (n, -1, true) with | some v => some (meantC (splitC v).1 (openC (splitC v).2)) | none => lk p (n, -1, false)) | some (s, w) => (if w = true then some (meantC (splitC s).1 (openC (splitC s).2 ++ sectC p f n 63 1)) else some (s ++ sectC p f n 63 1)) := rfl
 rw [hv]
 refine zaa (args := [.map (some mp), .string (str n), .map (some mf)]) Tryz.func114 rfl NL ?_; refine GW ?_
 refine CallS.of (Tryz.call148 _ _) (ziJ n 0 hp hf) ?_
 rintro e w1 ⟨rfl, k1⟩
 have hp1 := hp.keep k1 (fun e => e)
 have hf1 := hf.keep k1 (fun e => e)
 cases hg : getC p f n 0 with
 | none =>
  unfold gotV
  dsimp only
  refine RT ?_
  refine KGO ?_
  refine RunV.of (zdx (str n) (-1) true _) ?_
  refine KGO ?_
  refine RunV.lookG2 keySp Tryz.underlying129 (by rfl) hp1 (n, -1, true) rfl ?_
  rw [zcG]
  cases hl1 : lk p (n, -1, true) with
  | none =>
   dsimp only [Option.map, Option.getD, Option.isSome]
   refine KGO ?_
   refine RunV.of (zdx (str n) (-1) false _) ?_
   refine KGO ?_
   refine RunV.lookG2 keySp Tryz.underlying129 (by rfl) hp1 (n, -1, false) rfl ?_
   rw [zcG]
   cases hl2 : lk p (n, -1, false) with
   | none =>
    dsimp only [Option.map, Option.getD, Option.isSome]
    refine KGO ?_
    exact ⟨rfl, k1⟩
   | some v =>
    dsimp only [Option.map, Option.getD, Option.isSome]
    refine KGO ?_
    exact ⟨rfl, k1⟩
  | some v =>
   have hvl := zhn hl hl1
   have hsl := zbL v
   have hol := zba _ (splitC v).2 (Nat.le_refl _)
   dsimp only [Option.map, Option.getD, Option.isSome]
   refine KGO ?_
   refine CallS.of (Tryz.call149 _ _) (zgP (w := w1) v (hm.keep k1) (by omega)) ?_
   rintro e w2 ⟨rfl, k2⟩
   have K2 := k1.trans0 k2
   refine RT ?_
   refine KGO ?_
   refine CallS.of (Tryz.call151 _ _) (zeC (splitC v).2 (by omega) w2) ?_
   rintro e w3 ⟨rfl, k3⟩
   have K3 := K2.trans0 k3
   refine RT ?_
   refine KGO ?_
   refine CallS.of (Tryz.call150 _ _) (zeE (w := w3) (splitC v).1 (openC (splitC v).2) (hT.keep K3) (by omega) (by omega)) ?_
   rintro e w4 ⟨rfl, k4⟩
   refine RT ?_
   exact ⟨rfl, K3.trans0 k4⟩
 | some x =>
  obtain ⟨s, b⟩ := x
  have hsl0 := zck hl hg
  have hsl := zbL s
  have hol := zba _ (splitC s).2 (Nat.le_refl _)
  unfold gotV
  dsimp only
  refine RT ?_
  cases b
  ·rw [if_neg (by simp)]
   refine KGO ?_
   refine Loop.intro (ι := Nat × List UInt8) (fun i => [(0, .map (some mp)), (1, .string (str n)), (2, .map (some mf)), (9, .bool false), (17, .string (str ([] : List UInt8))), (18, .string (str i.2)), (19, .int .i64 (i.1 : Nat))])
    (fun i wr => Kp w wr n_ ∧ 1 ≤ i.1 ∧ i.1 ≤ 64 ∧ i.2 ++ sectC p f n (64 - i.1) i.1 = s ++ sectC p f n 63 1 ∧ i.2.length ≤ i.1 * 1000000) (fun i => 64 - i.1) (1, s) ⟨rfl, rfl, rfl, rfl, rfl, rfl, rfl, trivial⟩
    ⟨k1, Nat.le_refl _, (show 1 ≤ 64 by decide), rfl, by dsimp only; omega⟩ ?_
   rintro ⟨i, O⟩ g wr ⟨hK, hi1, hi, he, hn⟩
   dsimp only at hi1 hi he hn ⊢
   refine GW ?_
   by_cases hlt : i < 64
   ·refine KGO ?_
    refine CallS.of (Tryz.call148 _ _) (ziJ (w := wr) n (i : Nat) (hp.keep hK (fun e => e)) (hf.keep hK (fun e => e))) ?_
    rintro e wA ⟨rfl, kA⟩
    have KA := hK.trans0 kA
    rw [show 64 - i = (63 - i) + 1 by omega, zdo] at he
    cases hgi : getC p f n (i : Nat) with
    | none =>
     rw [hgi] at he
     dsimp only at he
     rw [List.append_nil] at he
     unfold gotV
     dsimp only
     refine RT ?_
     refine KGO ?_
     rw [← he]
     exact ⟨rfl, KA⟩
    | some x =>
     obtain ⟨v, b⟩ := x
     have hvl := zck hl hgi
     have hol2 := zba _ v (Nat.le_refl _)
     rw [hgi] at he
     dsimp only at he
     unfold gotV
     dsimp only
     refine RT ?_
     cases b
     ·rw [if_neg (by simp)] at he
      refine KGO ?_
      refine RunV.cat (by rw [zae, zae]; omega) ?_
      rw [zaF]
      refine KGO ?_
      exact ⟨(i + 1, O ++ v), ⟨rfl, rfl, rfl, rfl, rfl, rfl, v_int (by simp), trivial⟩, ⟨KA, by dsimp only; omega, by dsimp only; omega, by dsimp only; rw [show 64 - (i + 1) = 63 - i by omega, List.append_assoc]; exact he, by dsimp only; rw [List.length_append]; omega⟩, by dsimp only; omega⟩
     ·rw [if_pos rfl] at he
      refine KGO ?_
      refine CallS.of (Tryz.call151 _ _) (zeC v (by omega) wA) ?_
      rintro e wB ⟨rfl, kB⟩
      have KB := KA.trans0 kB
      refine RT ?_
      refine KGO ?_
      refine RunV.cat (by rw [zae, zae]; omega) ?_
      rw [zaF]
      refine KGO ?_
      exact ⟨(i + 1, O ++ openC v), ⟨rfl, rfl, rfl, rfl, rfl, rfl, v_int (by simp), trivial⟩, ⟨KB, by dsimp only; omega, by dsimp only; omega, by dsimp only; rw [show 64 - (i + 1) = 63 - i by omega, List.append_assoc]; exact he, by dsimp only; rw [List.length_append]; omega⟩, by dsimp only; omega⟩
   ·rw [show 64 - i = 0 by omega, show sectC p f n 0 i = [] from rfl, List.append_nil] at he
    have kA := Kp.refl wr n_
    have KA := hK
    obtain ⟨wA, hwA⟩ : ∃ wA, wA = wr := ⟨_, rfl⟩
    rw [← hwA] at KA ⊢
    refine KGO ?_
    rw [← he]
    exact ⟨rfl, KA⟩
  ·rw [if_pos rfl]
   refine KGO ?_
   refine CallS.of (Tryz.call149 _ _) (zgP (w := w1) s (hm.keep k1) (by omega)) ?_
   rintro e w2 ⟨rfl, k2⟩
   have K2 := k1.trans0 k2
   refine RT ?_
   refine KGO ?_
   refine CallS.of (Tryz.call151 _ _) (zeC (splitC s).2 (by omega) w2) ?_
   rintro e w3 ⟨rfl, k3⟩
   have K3 := K2.trans0 k3
   refine RT ?_
   refine KGO ?_
   refine Loop.intro (ι := Nat × List UInt8) (fun i => [(0, .map (some mp)), (1, .string (str n)), (2, .map (some mf)), (9, .bool true), (17, .string (str (splitC s).1)), (18, .string (str i.2)), (19, .int .i64 (i.1 : Nat))])
    (fun i wr => Kp w wr n_ ∧ 1 ≤ i.1 ∧ i.1 ≤ 64 ∧ i.2 ++ sectC p f n (64 - i.1) i.1 = (openC (splitC s).2) ++ sectC p f n 63 1 ∧ i.2.length ≤ i.1 * 1000000) (fun i => 64 - i.1) (1, (openC (splitC s).2)) ⟨rfl, rfl, rfl, rfl, rfl, rfl, rfl, trivial⟩
    ⟨K3, Nat.le_refl _, (show 1 ≤ 64 by decide), rfl, by dsimp only; omega⟩ ?_
   rintro ⟨i, O⟩ g wr ⟨hK, hi1, hi, he, hn⟩
   dsimp only at hi1 hi he hn ⊢
   refine GW ?_
   by_cases hlt : i < 64
   ·refine KGO ?_
    refine CallS.of (Tryz.call148 _ _) (ziJ (w := wr) n (i : Nat) (hp.keep hK (fun e => e)) (hf.keep hK (fun e => e))) ?_
    rintro e wA ⟨rfl, kA⟩
    have KA := hK.trans0 kA
    rw [show 64 - i = (63 - i) + 1 by omega, zdo] at he
    cases hgi : getC p f n (i : Nat) with
    | none =>
     rw [hgi] at he
     dsimp only at he
     rw [List.append_nil] at he
     unfold gotV
     dsimp only
     refine RT ?_
     refine KGO ?_
     rw [← he]
     refine CallS.of (Tryz.call150 _ _) (zeE (w := wA) (splitC s).1 O (hT.keep KA) (by omega) (by omega)) ?_
     rintro e wC ⟨rfl, kC⟩
     refine RT ?_
     exact ⟨rfl, KA.trans0 kC⟩
    | some x =>
     obtain ⟨v, b⟩ := x
     have hvl := zck hl hgi
     have hol2 := zba _ v (Nat.le_refl _)
     rw [hgi] at he
     dsimp only at he
     unfold gotV
     dsimp only
     refine RT ?_
     cases b
     ·rw [if_neg (by simp)] at he
      refine KGO ?_
      refine RunV.cat (by rw [zae, zae]; omega) ?_
      rw [zaF]
      refine KGO ?_
      exact ⟨(i + 1, O ++ v), ⟨rfl, rfl, rfl, rfl, rfl, rfl, v_int (by simp), trivial⟩, ⟨KA, by dsimp only; omega, by dsimp only; omega, by dsimp only; rw [show 64 - (i + 1) = 63 - i by omega, List.append_assoc]; exact he, by dsimp only; rw [List.length_append]; omega⟩, by dsimp only; omega⟩
     ·rw [if_pos rfl] at he
      refine KGO ?_
      refine CallS.of (Tryz.call151 _ _) (zeC v (by omega) wA) ?_
      rintro e wB ⟨rfl, kB⟩
      have KB := KA.trans0 kB
      refine RT ?_
      refine KGO ?_
      refine RunV.cat (by rw [zae, zae]; omega) ?_
      rw [zaF]
      refine KGO ?_
      exact ⟨(i + 1, O ++ openC v), ⟨rfl, rfl, rfl, rfl, rfl, rfl, v_int (by simp), trivial⟩, ⟨KB, by dsimp only; omega, by dsimp only; omega, by dsimp only; rw [show 64 - (i + 1) = 63 - i by omega, List.append_assoc]; exact he, by dsimp only; rw [List.length_append]; omega⟩, by dsimp only; omega⟩
   ·rw [show 64 - i = 0 by omega, show sectC p f n 0 i = [] from rfl, List.append_nil] at he
    have kA := Kp.refl wr n_
    have KA := hK
    obtain ⟨wA, hwA⟩ : ∃ wA, wA = wr := ⟨_, rfl⟩
    rw [← hwA] at KA ⊢
    refine KGO ?_
    rw [← he]
    refine CallS.of (Tryz.call150 _ _) (zeE (w := wA) (splitC s).1 O (hT.keep KA) (by omega) (by omega)) ?_
    rintro e wC ⟨rfl, kC⟩
    refine RT ?_
    exact ⟨rfl, KA.trans0 kC⟩
end
end Go.Proofs.YtmjeacpoobbjjaaGreatDoor
namespace Go.Vc
open Go Go.Pw Go.RowKit
def SameB (c : Nat → Prop) (w w' : World) : Prop := ∀ b, c b → w'.heap[b]? = w.heap[b]?
section
variable {P : Program} {n : Nat} {K : Exit → Fr → World → Prop} {ps : Array Tmp} {assign body : Code} {t : List It} {g : Operand} {fg : Nat → Value} {dl : DL} {w : World} {gf : Nat} {lb : Array Value} {α : Type}
theorem Range.introW (enc : α → List Value) (hg : ev ⟨fg, dl⟩ g = .func (.func gf) #[] lb) (hgf : ∀ args w, (callFunc gf args).run P w = .ok (.enter gf args) w)
  (hpa : plainC assign = true) (hpb : plainC body = true) (hps : (ps.toList.all fun p => Nat.ble (p + 1) n) = true) (hen : ∀ x, (enc x).length = ps.size)
  (cI : Nat → Prop) (hcI : ∀ b, cI b → b < w.heap.size) (I : List α → World → Prop) (Ix : Code → List α → World → Prop) (S : List α → Prop) (Nx : List α → α → World → Prop)
  (hI : ∀ pre W W', I pre W → w.heap.size + 2 ≤ W.heap.size → Kp W W' (fun b => cI b ∨ b = w.heap.size + 1) → I pre W')
  (hIx : ∀ c pre W W', Ix c pre W → w.heap.size + 2 ≤ W.heap.size → Kp W W' (fun b => cI b ∨ b = w.heap.size + 1) → Ix c pre W')
  (h0 : ∀ W, Kp w W n_ → W.heap.size = w.heap.size + 2 → I [] W)
  (iter : ∀ J Jx : List α → World → Prop, (∀ pre W, J pre W → I pre W ∧ w.heap.size + 2 ≤ W.heap.size) → (∀ pre W W', J pre W → Kp W W' cI → J pre W') → (∀ pre W W', Jx pre W → Kp W W' cI → Jx pre W') →
   (∀ pre x W, J pre W → Nx pre x W → YieldS P (w.heap.size + 1) (enc x) W fun v W' => (v = .bool true ∧ J (pre ++ [x]) W' ∧ SameB cI W W') ∨ (v = .bool false ∧ Jx (pre ++ [x]) W')) →
   ∀ W, Kp w W n_ → J [] W → Calls P gf (#[.func (.yield (w.heap.size + 1)) #[] #[]] ++ lb) W fun e W' => (∃ v, e = .returned v) ∧ ((∃ xs, S xs ∧ J xs W') ∨ ∃ pre, Jx pre W'))
  (round : ∀ pre x W, I pre W → Nx pre x W → w.heap.size + 2 ≤ W.heap.size → Sat P n (asgK P n w.heap.size (fun p W' => I p W' ∧ SameB cI W W') Ix (pre ++ [x]) W body) .normal [.code assign] (putPs ps.toList (enc x) ⟨fg, .nil⟩) W)
  (done : ∀ xs W, S xs → I xs W → w.heap.size + 2 ≤ W.heap.size → W.heap[w.heap.size]? = some (.deferred (some [])) → Sat P n K .normal t ⟨fg, .of (w.heap.size :: dl.toL)⟩ W)
  (stop : ∀ c pre W, Ix c pre W → w.heap.size + 2 ≤ W.heap.size → W.heap[w.heap.size]? = some (.deferred (some [])) → Sat P n K .normal (.code c :: t) ⟨fg, .of (w.heap.size :: dl.toL)⟩ W) :
  Range P n K g ps assign body t ⟨fg, dl⟩ w := by
 refine ⟨fun hf r hr => ?_⟩
 obtain rfl : r = none := by
  rcases hr with h | h
  ·exact h
  ·cases h
 refine wpIn_rangeFunc ?_
 intro fn _
 generalize hD : w.heap.size = D at *
 obtain ⟨rec, hrec⟩ : ∃ rec : Go.Loop, rec = { state := .ready, pending := none, fn := fn, tmps := frArr n ⟨fg, dl⟩, params := ps, assign := assign, body := body, defers := D } := ⟨_, rfl⟩
 obtain ⟨W1, hW1⟩ : ∃ W1, (w.alloc (.deferred (some []))).alloc (.loop rec) = W1 := ⟨_, rfl⟩
 have hs1 : W1.heap.size = D + 2 := by rw [← hW1]; simp [hD]
 have hk1 : Kp w W1 n_ := by rw [← hW1]; exact ((Kp.refl w n_).alloc _).alloc _
 have hL1 : W1.heap[D + 1]? = some (.loop rec) := by
  rw [← hW1, ← hD]; have := World.alloc_heap_new (w.alloc (.deferred (some []))) (.loop rec); rwa [World.size_alloc] at this
 have hD1 : W1.heap[D]? = some (.deferred (some [])) := by
  rw [← hW1, ← hD]; exact (Below.heap_alloc _ _ _ (by simp)).trans (World.alloc_heap_new w _)
 refine ⟨D + 1, [{ target := .collected D, args := #[] }], W1, { target := .fn (.func gf) lb, args := #[.func (.yield (D + 1)) #[] #[]] }, W1, gf,
  #[.func (.yield (D + 1)) #[] #[]] ++ lb, W1, ?_, ?_, fun _ _ => trivial, ?_, fun h => by simp [RW, Fence.wide] at h, ?_⟩
 ·have := run_enterLoop_outer (P := P) (w := w) fn (frArr n ⟨fg, dl⟩) ps assign body
  rw [hD, ← hrec, hW1] at this
  exact this
 ·have he : (act n ⟨fg, dl⟩).eval g = .func (.func gf) #[] lb := by rw [zbe hf]; exact hg
  simp only [resolve, he]
  simp [go_sem]
 ·simp [invoke, go_sem, hgf]
 ·refine zeZ ?_
  have keepL : ∀ {W W' : World} {k : Nat} {o : Obj}, Kp W W' cI → W.heap[k]? = some o → D ≤ k → W'.heap[k]? = some o := fun {W W' k o} hk ho hle =>
   (hk.block k (Array.getElem?_eq_some_iff.1 ho).1 (fun h => by have := hcI _ h; omega)).trans ho
  have hlt : ∀ {W : World} {k : Nat} {o : Obj}, W.heap[k]? = some o → k < W.heap.size := fun ho => (Array.getElem?_eq_some_iff.1 ho).1
  refine (iter (fun pre W => I pre W ∧ W.heap[D + 1]? = some (.loop rec) ∧ W.heap[D]? = some (.deferred (some [])))
   (fun pre W => ∃ c, Ix c pre W ∧ W.heap[D + 1]? = some (.loop { rec with state := .done, pending := some c }) ∧ W.heap[D]? = some (.deferred (some [])))
   (fun pre W h => ⟨h.1, by have := hlt h.2.1; omega⟩)
   (fun pre W W' h k => ⟨hI pre W W' h.1 (by have := hlt h.2.1; omega) (k.mono fun _ _ h => .inl h), keepL k h.2.1 (by omega), keepL k h.2.2 (Nat.le_refl _)⟩)
   (fun pre W W' h k => by
    obtain ⟨c, h1, h2, h3⟩ := h
    exact ⟨c, hIx c pre W W' h1 (by have := hlt h2; omega) (k.mono fun _ _ h => .inl h), keepL k h2 (by omega), keepL k h3 (Nat.le_refl _)⟩)
   ?_ W1 hk1 ⟨h0 W1 hk1 hs1, hL1, hD1⟩).mono ?_
  ·rintro pre x W ⟨hi, hl, hd⟩ hnx
   have hsz : D + 2 ≤ W.heap.size := by have := hlt hl; omega
   refine zgQ hf hrec hl (hen x) hps hpa hpb (round pre x W hi hnx hsz) ?_ ?_
   ·rintro W3 W4 h3 h4 h5 rfl
    have hs3 := hlt h3
    refine .inl ⟨rfl, ⟨hI _ _ _ h5.1 (by omega) ((zaA _ _ _).mono fun b _ h => .inr h), World.putObj_heap_same hs3, (World.putObj_heap_other (by omega)).trans (h4.trans hd)⟩, fun b hb => ?_⟩
    have := hcI b hb
    exact (World.putObj_heap_other (by omega)).trans (h5.2 b hb)
   ·rintro c W3 W4 h3 h4 h5 rfl
    have hs3 := hlt h3
    refine .inr ⟨rfl, c, hIx _ _ _ _ h5 (by omega) ((zaA _ _ _).mono fun b _ h => .inr h), World.putObj_heap_same hs3, ?_⟩
    exact (World.putObj_heap_other (by omega)).trans (h4.trans hd)
  ·rintro e W2 ⟨⟨v, rfl⟩, (⟨xs, hS, hi, hl, hd⟩ | ⟨pre, c, hi, hl, hd⟩)⟩
   ·have hsz := hlt hl
    refine ⟨none, _, by have := run_endLoop (P := P) hl (by rw [hrec]; simp); rw [show rec.pending = none from by rw [hrec]] at this; exact this, ?_⟩
    have h1 := done xs (W2.putObj (D + 1) (.loop { rec with state := .exhausted, pending := none })) hS (hI _ _ _ hi (by omega) ((zaA _ _ _).mono fun b _ h => .inr h)) (by rw [zaM]; omega) ((World.putObj_heap_other (by omega)).trans hd)
    exact ⟨⟨fg, .of (D :: dl.toL)⟩, hf, rfl, h1.h hf⟩
   ·have hsz := hlt hl
    refine ⟨some c, _, run_endLoop (P := P) hl (by simp), ?_⟩
    have h1 := stop c pre (W2.putObj (D + 1) (.loop { rec with state := .exhausted, pending := some c })) (hIx _ _ _ _ hi (by omega) ((zaA _ _ _).mono fun b _ h => .inr h)) (by rw [zaM]; omega) ((World.putObj_heap_other (by omega)).trans hd)
    exact (h1.h hf : c.wpX P (LiftE n (after P n t K)) (act n ⟨fg, .of (D :: dl.toL)⟩) _) none (.inl rfl)
end
end Go.Vc
