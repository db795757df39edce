/- Helper text of this claim: lemmas and contracts that the proved statement rests on; no conditions of its own. -/
import Derived.Test.YtcplagfblmemhaaGreatDoorGCd0
namespace Go.Proofs.YtcplagfblmemhaaGreatDoor
set_option linter.unusedVariables false
set_option maxHeartbeats 2000000
open Go.Shelf Go.RowKit Go.Pw Go.Vc Go.Cs Go.Lib Go.Cd
set_option linter.unusedVariables false
set_option maxRecDepth 100000
theorem zaZ {w w' a : World} {c : Nat → Prop} {B s n : Nat} {e : TypeId} {v : Value} {xs : List Value} (h : w.ownsRow B e s v n xs) (k : Kp w w' (own_ v)) (ha : Kp a w c) (hB : a.heap.size ≤ B) : Kp a w' c :=
 ha.trans k fun i hi hc => by
  exfalso
  rcases h.2 with ⟨rfl, _⟩ | ⟨g, cap, cur, rfl, hb, _⟩
  ·cases hc
  ·have e : g = i := by simpa [own_, Value.ownBlock] using hc
   omega
theorem bs1I (z : Int) (w : World) : (Instr.buildSlice 37 1 [(0, .int .i64 z)].toArray).run Tryz.prog w = .ok (.slice (some ⟨w.heap.size, 0, none⟩) 1 1) (w.alloc (.cells (List.toArray (inC z)) 3)) := by
 simp [Instr.buildSlice, go_sem, Tryz.runUnderlying37, inC]
def iL (l : List Nat) : List Int := l.map fun n : Nat => (n : Int)
theorem zcH (l : List Nat) : (iL l).length = l.length := by simp [iL]
theorem zhn (l : List Nat) (h : ∀ n ∈ l, n < 2 ^ 63) : (l.flatMap numE).length ≤ 9 * l.length := by
 induction l with
 | nil => simp
 | cons n l ih =>
  have h1 := zca (h n List.mem_cons_self)
  have h2 := ih fun m hm => h m (List.mem_cons_of_mem _ hm)
  simp only [List.flatMap_cons, List.length_append, List.length_cons]; omega
section
variable {w : World} {b : Nat}
theorem zpL (l : List Nat) {v : Value} (hv : RowI w v (iL l)) (hb : ∀ n ∈ l, n < 2 ^ 63) (hl : l.length ≤ 1000000) :
  Calls Tryz.prog 77 #[v, .func (.func 46) #[] #[]] w fun e w' => e = .returned (.string (str (numsE l))) ∧ Kp w w' n_ := by
 obtain ⟨a, cap, rfl, hr⟩ := hv
 rw [zcH]
 refine zaa (args := [.slice a l.length cap, .func (.func 46) #[] #[]]) Tryz.func77 rfl NL ?_; refine GW ?_
 have hb0 := ziy w w.heap.size (Nat.le_refl _)
 have K0 : Kp w (w.alloc (.cells #[.pointer none, .slice none 0 0] 136)) n_ := (Kp.refl _ _).alloc _
 generalize w.alloc (.cells #[.pointer none, .slice none 0 0] 136) = w0 at *
 refine GO ?_
 refine CallS.of (Tryz.call46 _ _) (zhM l.length (by omega)) ?_
 rintro e w1 ⟨rfl, k1⟩
 refine RT ?_
 have hln := zca (show l.length < 2 ^ 63 by omega)
 have hsz : (str (numE l.length)).size = (numE l.length).length := rfl
 have hb1 := zeD hb0 k1
 have K1 := K0.trans0 k1
 refine CallS.of (Tryz.call79 _ _) (zbo (str (numE l.length)) w1 hb1 (by rw [hsz]; simp; omega) K1.size) ?_
 rintro e w2 ⟨rfl, hb2, hbe, _⟩
 refine RT ?_
 have K2 := K1.below' hbe (Nat.le_refl _)
 rw [List.nil_append, show L (str (numE l.length)) = numE l.length from rfl] at hb2
 refine Loop.intro (ι := Nat) (fun i => [(1, .func (.func 46) #[] #[]), (5, .pointer (some ⟨w.heap.size, 0, none⟩)), (6, .func (.func 79) #[.pointer (some ⟨w.heap.size, 0, none⟩)] #[]), (15, .slice a l.length cap), (16, .int .i64 (l.length : Nat)), (17, .int .i64 (i : Nat))])
  (fun i wr => Kp w wr n_ ∧ i ≤ l.length ∧ Bld wr w.heap.size w.heap.size (numE l.length ++ (l.take i).flatMap numE)) (fun i => l.length - i) 0 ⟨rfl, rfl, by simp [upd], rfl, rfl, rfl, trivial⟩ ⟨K2, by omega, by simpa using hb2⟩ ?_
 rintro i g wr ⟨hK, hi, hbr⟩
 refine GW ?_
 by_cases hlt : i < l.length
 ·obtain ⟨gb, o, rfl, hgb, hat⟩ := hr (by rw [zcH]; omega)
  have hca := zfb hat (by rw [zcH]; exact hlt)
  have hgi : (iL l)[i]'(by rw [zcH]; exact hlt) = ((l[i] : Nat) : Int) := by simp [iL]
  rw [hgi] at hca
  have hbi := hb l[i] (List.getElem_mem hlt)
  refine KGO ?_
  refine CallS.of (Tryz.call46 _ _) (zhM l[i] hbi) ?_
  rintro e w3 ⟨rfl, k3⟩
  refine RT ?_
  have hni := zca hbi
  have hbr3 := zeD hbr k3
  have K3 := hK.trans0 k3
  have hfl := zhn (l.take i) (fun n hn => hb n (List.mem_of_mem_take hn))
  rw [List.length_take] at hfl
  refine CallS.of (Tryz.call79 _ _) (zbo (str (numE l[i])) w3 hbr3 (by rw [show (str (numE l[i])).size = (numE l[i]).length from rfl, List.length_append]; omega) K3.size) ?_
  rintro e w4 ⟨rfl, hb4, hbe4, _⟩
  refine RT ?_
  refine KGO ?_
  refine ⟨i + 1, ⟨rfl, rfl, rfl, rfl, rfl, v_int (by simp), trivial⟩, ⟨K3.below' hbe4 (Nat.le_refl _), by omega, ?_⟩, by dsimp only; omega⟩
  rw [List.take_succ_eq_append_getElem hlt, List.flatMap_append, ← List.append_assoc]
  rw [show L (str (numE l[i])) = numE l[i] from rfl] at hb4
  simpa using hb4
 ·refine KGO ?_
  have hnn : i = l.length := by omega
  rw [hnn, List.take_length] at hbr
  refine CallS.of (Tryz.call76 _ _) (zeC wr hbr hK.size) ?_
  rintro e w4 ⟨rfl, hb4, hbe4, _⟩
  refine RT ?_
  exact ⟨rfl, hK.below' hbe4 (Nat.le_refl _)⟩
theorem zpw (l : List Nat) {v : Value} (hv : RowI w v (iL l)) (hb : ∀ n ∈ l, n < 2 ^ 63) (hl : l.length ≤ 1000000) :
  Calls Tryz.prog 47 #[v] w fun e w' => e = .returned (.string (str (numsE l))) ∧ Kp w w' n_ := by
 have hv0 := hv
 obtain ⟨a, cap, rfl, hr⟩ := hv
 refine zaa (args := [.slice a (iL l).length cap]) Tryz.func47 rfl NL ?_; refine GW ?_
 refine CallS.of (Tryz.call77 _ _) (zpL l hv0 hb hl) ?_
 rintro e w1 ⟨rfl, k1⟩
 refine RT ?_
 exact ⟨rfl, k1⟩
theorem znt (s : ByteArray) (w : World) : (Instr.build 130 [(0, .string s)].toArray).run Tryz.prog w = .ok (.agg #[.string s, .bool false]) w := by
 simp [Instr.build, go_sem, Tryz.runUnderlying130]
theorem zpZ (s : ByteArray) : Calls Tryz.prog 41 #[.string s] w fun e w' => e = .returned (.pointer (some ⟨w.heap.size, 0, none⟩)) ∧ VarK w' w.heap.size 130 (rdC (some (L s))) ∧ Kp w w' n_ := by
 refine zaa (args := [.string s]) Tryz.func41 rfl NL ?_; refine GW ?_
 refine RunV.of (znt s w) ?_
 refine GW ?_
 refine ⟨rfl, ?_, (Kp.refl _ _).alloc _⟩
 exact VarK.new w 130 [.string s, .bool false]
theorem zpX (s : St) (h : VarK w b 130 (rdC s)) (hs : ∀ u, s = some u → u.length ≤ 140737488355328) : Calls Tryz.prog 45 #[.pointer (some ⟨b, 0, none⟩)] w fun e w' => e = .returned (.bool (decide (s = some []))) ∧ Kp w w' n_ := by
 cases s with
 | none =>
  have ha : At w b 0 [.string ⟨#[]⟩, .bool true] := h.at
  refine zaa (args := [.pointer (some ⟨b, 0, none⟩)]) Tryz.func45 rfl NL ?_; refine GW ?_
  refine KGO ?_
  exact ⟨rfl, Kp.refl _ _⟩
 | some u =>
  have ha : At w b 0 [.string (str u), .bool false] := h.at
  have hsz : (str u).size = u.length := rfl
  refine zaa (args := [.pointer (some ⟨b, 0, none⟩)]) Tryz.func45 rfl NL ?_; refine GW ?_
  by_cases hu : u.length = 0
  ·refine KGO ?_
   refine ⟨zag ?_, Kp.refl _ _⟩
   rw [hsz, hu, List.eq_nil_of_length_eq_zero hu]; rfl
  ·refine KGO ?_
   refine ⟨zag ?_, Kp.refl _ _⟩
   rw [hsz]
   have : u ≠ [] := fun e => hu (by rw [e]; rfl)
   simp [this, hu]
end
end Go.Proofs.YtcplagfblmemhaaGreatDoor
namespace Go.Cx
set_option linter.unusedVariables false
set_option maxHeartbeats 2000000
open Go.Cd
structure Chg where
 of : Int
 id : Int
 what : Int
 deriving DecidableEq
instance : Inhabited Chg := ⟨⟨0, 0, 0⟩⟩
structure Bk where
 state : Int
 kept : Int
 notes : List (List Chg)
def three (n : Int) : Bool := decide (1 ≤ n ∧ n ≤ 3)
def fineA (c : Chg) : Bool := three c.of && three c.what && decide (0 ≤ c.id)
def maxI : Int := 9223372036854775807
def noteA (k : Bk) (st : Int) (l : List Chg) : Int × Bk :=
 if k.state = 9223372036854775807 ∨ st ≠ k.state + 1 then (17, k)
 else if 65536 < l.length ∨ l.any (fun c => !fineA c) = true then (1, k)
 else (0, ⟨st, k.kept, if k.kept < (k.notes.length + 1 : Nat) then (k.notes ++ [l]).tail else k.notes ++ [l]⟩)
def firstA (k : Bk) : Int := k.state - k.notes.length
structure GoodB (k : Bk) : Prop where
 s0 : 0 ≤ k.state
 s1 : k.state ≤ 9223372036854775807
 k0 : 1 ≤ k.kept
 k1 : k.kept ≤ 256
 nk : (k.notes.length : Int) ≤ k.kept
 ns : (k.notes.length : Int) ≤ k.state
 len : ∀ l ∈ k.notes, l.length ≤ 65536
 fine : ∀ l ∈ k.notes, ∀ c ∈ l, fineA c = true
theorem zgB {s k : Int} (h0 : 0 ≤ s) (h1 : s ≤ 9223372036854775807) (h2 : 1 ≤ k) (h3 : k ≤ 256) : GoodB ⟨s, k, []⟩ := ⟨h0, h1, h2, h3, (by show ((0 : Nat) : Int) ≤ k; omega), (by show ((0 : Nat) : Int) ≤ s; omega), (fun l h => nomatch h), (fun l h => nomatch h)⟩
theorem zje {α : Type} {l : List α} {x : α} (h : x ∈ l.tail) : x ∈ l := List.mem_of_mem_tail h
theorem zkl {k : Bk} {st : Int} {l : List Chg} (h : GoodB k) (hs : st ≤ 9223372036854775807) : GoodB (noteA k st l).2 := by
 unfold noteA
 split
 ·exact h
 rename_i h1
 split
 ·exact h
 rename_i h2
 have h1a : ¬ k.state = 9223372036854775807 := fun e => h1 (.inl e)
 have h1b : st = k.state + 1 := Classical.byContradiction fun e => h1 (.inr e)
 have h2a : l.length ≤ 65536 := Nat.le_of_not_lt fun e => h2 (.inl e)
 have h2b : ∀ c ∈ l, fineA c = true := fun c hc => by
  have : ¬ l.any (fun c => !fineA c) = true := fun e => h2 (.inr e)
  rw [List.any_eq_true] at this
  cases hf : fineA c with
  | true => rfl
  | false => exact (this ⟨c, hc, by rw [hf]; rfl⟩).elim
 have hmem : ∀ x ∈ k.notes ++ [l], x.length ≤ 65536 ∧ ∀ c ∈ x, fineA c = true := fun x hx => by
  rcases List.mem_append.1 hx with hx | hx
  ·exact ⟨h.len x hx, h.fine x hx⟩
  ·rw [List.mem_singleton.1 hx]; exact ⟨h2a, h2b⟩
 have := h.s0; have := h.k0; have := h.nk; have := h.ns
 dsimp only
 split
 ·rename_i hk
  refine ⟨by dsimp only; omega, hs, h.k0, h.k1, ?_, ?_, fun x hx => (hmem x (zje hx)).1, fun x hx => (hmem x (zje hx)).2⟩
  ·simp only [List.length_tail, List.length_append, List.length_singleton]; omega
  ·simp only [List.length_tail, List.length_append, List.length_singleton]; omega
 ·rename_i hk
  refine ⟨by dsimp only; omega, hs, h.k0, h.k1, ?_, ?_, fun x hx => (hmem x hx).1, fun x hx => (hmem x hx).2⟩
  ·simp only [List.length_append, List.length_singleton]; omega
  ·simp only [List.length_append, List.length_singleton]; omega
def flatC (l : List Chg) : List Nat := l.flatMap fun c => [c.of.toNat, c.id.toNat, c.what.toNat]
def bytesA (k : Bk) : List UInt8 := numE k.kept.toNat ++ numE (firstA k).toNat ++ numE k.notes.length ++ k.notes.flatMap fun l => numsE (flatC l)
def chunkC : List Nat → Option (List Chg)
 | [] => some []
 | a :: b :: c :: r => (chunkC r).map fun l => ⟨a, b, c⟩ :: l
 | _ => none
def readG : Nat → Bk → St → Option (Bk × St)
 | 0, b, s => some (b, s)
 | k + 1, b, s => (match numsR s with
  | (n, s') => (match chunkC n with
   | none => none
   | some l => if (noteA b (b.state + 1) l).1 = 0 then readG k (noteA b (b.state + 1) l).2 s' else none))
def readA (u : List UInt8) : Option Bk :=
 match numR (some u) with
 | (kept, s1) => (match numR s1 with
  | (first, s2) => (match numR s2 with
   | (many, s3) => if kept < 1 ∨ 256 < kept ∨ kept < many then none else (match readG many ⟨first, kept, []⟩ s3 with
    | none => none
    | some (b, s) => if s = some [] then some b else none)))
abbrev Key := Int × Int
def fstep (f : Option (Bool × Bool)) (c : Chg) : Option (Bool × Bool) :=
 some (match f with | none => decide (c.what ≠ 1) | some p => p.1, decide (c.what ≠ 3))
def fate (cs : List Chg) (k : Key) : Option (Bool × Bool) := (cs.filter fun c => decide ((c.of, c.id) = k)).foldl fstep none
def putS : List Int → Int → List Int
 | [], n => [n]
 | x :: l, n => if x < n then x :: putS l n else if x = n then x :: l else n :: x :: l
def idsA (cs : List Chg) (of : Int) : List Int := (cs.filter fun c => decide (c.of = of)).foldl (fun l c => putS l c.id) []
structure Dlt where
 made : List Int
 changed : List Int
 gone : List Int
 state : Int
def netA (cs : List Chg) (of : Int) (w i : Bool) : List Int := (idsA cs of).filter fun n => decide (fate cs (of, n) = some (w, i))
def sinceA (k : Bk) (st of : Int) : Dlt × Int :=
 if of < 1 ∨ 3 < of then (⟨[], [], [], 0⟩, 1)
 else if k.state < st then (⟨[], [], [], 0⟩, 17)
 else if st < firstA k then (⟨[], [], [], 0⟩, 18)
 else
  let cs := (k.notes.drop (st - firstA k).toNat).flatten
  (⟨netA cs of false true, netA cs of true true, netA cs of true false, k.state⟩, 0)
end Go.Cx
namespace Go.Proofs.YtcplagfblmemhaaGreatDoor
set_option linter.unusedVariables false
set_option maxHeartbeats 2000000
open Go.RowKit Go.Pw Go.Vc Go.Cs Go.Lib Go.Cx
set_option linter.unusedVariables false
set_option maxRecDepth 100000
def chC (c : Chg) : List Value := [.int .i64 c.of, .int .i64 c.id, .int .i64 c.what]
abbrev shC (s : Sl) : List Value := [.slice s.a s.n s.c]
abbrev RowC (w : World) (v : Value) (l : List Chg) : Prop := RowO w v chC l
abbrev OwnChg (w : World) (B : Nat) (v : Value) (l : List Chg) : Prop := w.ownsRow B 66 3 v l.length (l.flatMap chC)
abbrev OwnCl (w : World) (B : Nat) (v : Value) (l : List Sl) : Prop := w.ownsRow B 53 1 v l.length (l.flatMap shC)
theorem infoChg : (Tryz.prog.info? 66).map (fun i => (i.zero, i.size, i.bytes)) = some (some (.agg #[.int .i64 0, .int .i64 0, .int .i64 0]), 3, 24) := by kernel_rfl
theorem lenChg (x : Chg) : (chC x).length = 3 := rfl
theorem oneChg (l : List Chg) : ∀ u ∈ l.flatMap chC, u.oneCell' = true := fun u hu => by
 obtain ⟨b, _, hb⟩ := List.mem_flatMap.1 hu
 exact (show ∀ u ∈ chC b, u.oneCell' = true from List.all_eq_true.1 (by rfl)) u hb
theorem build0Chg (w : World) : (Instr.buildSlice 53 0 [].toArray).run Tryz.prog w = .ok (.slice (some ⟨w.heap.size, 0, none⟩) 0 0) (w.alloc (.cells #[] 66)) := by
 simp [Instr.buildSlice, go_sem, Tryz.runUnderlying53]
theorem infoCl : (Tryz.prog.info? 53).map (fun i => (i.zero, i.size, i.bytes)) = some (some (.slice none 0 0), 1, 24) := by kernel_rfl
theorem lenCl (x : Sl) : (shC x).length = 1 := rfl
theorem oneCl (l : List Sl) : ∀ u ∈ l.flatMap shC, u.oneCell' = true := fun u hu => by
 obtain ⟨b, _, hb⟩ := List.mem_flatMap.1 hu
 exact (show ∀ u ∈ shC b, u.oneCell' = true from List.all_eq_true.1 (by rfl)) u hb
theorem build0Cl (w : World) : (Instr.buildSlice 76 0 [].toArray).run Tryz.prog w = .ok (.slice (some ⟨w.heap.size, 0, none⟩) 0 0) (w.alloc (.cells #[] 53)) := by
 simp [Instr.buildSlice, go_sem, Tryz.runUnderlying76]
theorem tyChg : RowTy 53 66 chC 3 24 := ⟨Tryz.underlying53, ⟨_, infoChg, rfl⟩, by decide, lenChg, fun x => List.all_eq_true.1 (by rfl)⟩
theorem tyCl : RowTy 76 53 shC 1 24 := ⟨Tryz.underlying76, ⟨_, infoCl, rfl⟩, by decide, lenCl, fun x => List.all_eq_true.1 (by rfl)⟩
theorem zqM {w : World} {v : Value} (l : List Chg) (hv : RowO w v chC l) (hl : l.length ≤ 1000000) : Calls Tryz.prog 28 #[v] w fun e w' => ∃ v', e = .returned v' ∧ OwnChg w' w.heap.size v' l ∧ Kp w w' n_ := by
 obtain ⟨a, cap, rfl, hr⟩ := hv
 have hnil : l.length = 0 → l = [] := List.eq_nil_of_length_eq_zero
 rcases a with _ | ⟨gb, o, sp⟩
 ·obtain rfl : l = [] := hnil (by
   rcases Nat.eq_zero_or_pos l.length with h | h
   ·exact h
   ·obtain ⟨g, o, h1, _⟩ := hr h; cases h1)
  refine zaa (args := [.slice none 0 cap]) Tryz.func28 rfl NL ?_; refine GW ?_
  refine KGO ?_
  exact ⟨_, rfl, World.ownsRow_nil _ _ _ _, Kp.refl _ _⟩
 ·refine zaa (args := [.slice (some ⟨gb, o, sp⟩) l.length cap]) Tryz.func28 rfl NL ?_; refine GW ?_
  refine KGO ?_
  refine RunV.of (build0Chg _) ?_
  have o1 : (w.alloc (.cells #[] 66)).ownsRow w.heap.size 66 3 (.slice (some ⟨w.heap.size, 0, none⟩) 0 0) 0 [] := World.ownsRow_made w #[] 0 (Nat.le_refl _) (by decide) (by simp)
  have k1 : Kp w (w.alloc (.cells #[] 66)) n_ := (Kp.refl _ _).alloc _
  have hB : w.heap.size ≤ (w.alloc (.cells #[] 66)).heap.size := k1.size
  generalize w.alloc (.cells #[] 66) = w1 at *
  refine KGO ?_
  have hnews : ∀ j u, (l.flatMap chC)[j]? = some u → w1.cell? ((⟨gb, o, sp⟩ : Addr).add j) = some u := fun j u hj => by
   rcases Nat.eq_zero_or_pos l.length with h | h
   ·rw [hnil h] at hj; simp at hj
   ·obtain ⟨g', o', h1, _, h3⟩ := hr h
    injection h1 with h1
    injection h1 with h4 h5 h6
    subst h4; subst h5; subst h6
    rw [add_none]
    exact zao (h3 j u hj) k1
  refine RunN.app Tryz.underlying53 infoChg rfl (by decide) o1 hB ⟨gb, o, sp⟩ l.length cap (l.flatMap chC) (zay chC 3 lenChg l) hnews (oneChg l) (by omega) (by omega) fun v' w' h2 h3 => ?_
  obtain ⟨a', c', rfl⟩ : ∃ a c, v' = .slice a (0 + l.length) c := zac h2
  refine KGO ?_
  refine ⟨_, rfl, ?_, k1.own o1 (Nat.le_refl _) h3⟩
  rw [List.nil_append, Nat.zero_add] at h2
  rw [Nat.zero_add]
  exact h2
theorem cl_Cl {w : World} {v : Value} (l : List Sl) (hv : RowO w v shC l) (hl : l.length ≤ 1000000) : Calls Tryz.prog 29 #[v] w fun e w' => ∃ v', e = .returned v' ∧ OwnCl w' w.heap.size v' l ∧ Kp w w' n_ := by
 obtain ⟨a, cap, rfl, hr⟩ := hv
 have hnil : l.length = 0 → l = [] := List.eq_nil_of_length_eq_zero
 rcases a with _ | ⟨gb, o, sp⟩
 ·obtain rfl : l = [] := hnil (by
   rcases Nat.eq_zero_or_pos l.length with h | h
   ·exact h
   ·obtain ⟨g, o, h1, _⟩ := hr h; cases h1)
  refine zaa (args := [.slice none 0 cap]) Tryz.func29 rfl NL ?_; refine GW ?_
  refine KGO ?_
  exact ⟨_, rfl, World.ownsRow_nil _ _ _ _, Kp.refl _ _⟩
 ·refine zaa (args := [.slice (some ⟨gb, o, sp⟩) l.length cap]) Tryz.func29 rfl NL ?_; refine GW ?_
  refine KGO ?_
  refine RunV.of (build0Cl _) ?_
  have o1 : (w.alloc (.cells #[] 53)).ownsRow w.heap.size 53 1 (.slice (some ⟨w.heap.size, 0, none⟩) 0 0) 0 [] := World.ownsRow_made w #[] 0 (Nat.le_refl _) (by decide) (by simp)
  have k1 : Kp w (w.alloc (.cells #[] 53)) n_ := (Kp.refl _ _).alloc _
  have hB : w.heap.size ≤ (w.alloc (.cells #[] 53)).heap.size := k1.size
  generalize w.alloc (.cells #[] 53) = w1 at *
  refine KGO ?_
  have hnews : ∀ j u, (l.flatMap shC)[j]? = some u → w1.cell? ((⟨gb, o, sp⟩ : Addr).add j) = some u := fun j u hj => by
   rcases Nat.eq_zero_or_pos l.length with h | h
   ·rw [hnil h] at hj; simp at hj
   ·obtain ⟨g', o', h1, _, h3⟩ := hr h
    injection h1 with h1
    injection h1 with h4 h5 h6
    subst h4; subst h5; subst h6
    rw [add_none]
    exact zao (h3 j u hj) k1
  refine RunN.app Tryz.underlying76 infoCl rfl (by decide) o1 hB ⟨gb, o, sp⟩ l.length cap (l.flatMap shC) (zay shC 1 lenCl l) hnews (oneCl l) (by omega) (by omega) fun v' w' h2 h3 => ?_
  obtain ⟨a', c', rfl⟩ : ∃ a c, v' = .slice a (0 + l.length) c := zac h2
  refine KGO ?_
  refine ⟨_, rfl, ?_, k1.own o1 (Nat.le_refl _) h3⟩
  rw [List.nil_append, Nat.zero_add] at h2
  rw [Nat.zero_add]
  exact h2
theorem znq {w : World} {v : Value} (l : List Chg) (g : Nat) (p : Chg → Bool) (hv : RowO w v chC l) (hl : l.length ≤ 1000000) (hg : ∀ (args : Array Value) (w : World), (callFunc g args).run Tryz.prog w = .ok (.enter g args) w)
  (hp : ∀ x ∈ l, ∀ w', Kp w w' n_ → Calls Tryz.prog g #[.agg (chC x).toArray] w' fun e w'' => e = .returned (.bool (p x)) ∧ Kp w' w'' n_) :
  Calls Tryz.prog 66 #[v, .func (.func g) #[] #[]] w fun e w' => e = .returned (.int .i64 (idxP p l)) ∧ Kp w w' n_ := by
 obtain ⟨a, cap, rfl, hr⟩ := hv
 refine zaa (args := [.slice a l.length cap, .func (.func g) #[] #[]]) Tryz.func66 rfl NL ?_; refine GW ?_
 refine Loop.intro (ι := Nat) (fun i => [(0, .slice a l.length cap), (1, .func (.func g) #[] #[]), (7, .int .i64 (l.length : Nat)), (8, .int .i64 (i : Nat))])
  (fun i wr => Kp w wr n_ ∧ i ≤ l.length ∧ ∀ j (h : j < l.length), j < i → p l[j] = false) (fun i => l.length - i) 0 ⟨rfl, rfl, rfl, rfl, trivial⟩ ⟨Kp.refl _ _, Nat.zero_le _, fun _ _ h => by omega⟩ ?_
 rintro i gg wr ⟨hK, hi, he⟩
 refine GW ?_
 by_cases hlt : i < l.length
 ·obtain ⟨gb, o, rfl, hgb, hat⟩ := hr (by omega)
  have hpc := hp l[i] (List.getElem_mem hlt) wr hK
  obtain ⟨q, hq⟩ : ∃ q, p l[i] = q := ⟨_, rfl⟩
  rw [hq] at hpc
  refine KGO ?_
  refine CallS.of (hg _ _) hpc ?_
  rintro e w1 ⟨rfl, k1⟩
  refine RT ?_
  cases q with
  | true =>
   refine KGO ?_
   exact ⟨by rw [zbP hlt hq he], hK.trans0 k1⟩
  | false =>
   refine KGO ?_
   exact ⟨i + 1, ⟨rfl, rfl, rfl, v_int (by simp), trivial⟩, ⟨hK.trans0 k1, by omega, fun j h hj => by
    rcases Nat.lt_or_ge j i with h' | h'
    ·exact he j h h'
    ·obtain rfl : j = i := by omega
     exact hq⟩, by dsimp only; omega⟩
 ·refine KGO ?_
  exact ⟨by rw [zbR fun j h => he j h (by omega)], hK⟩
theorem znx {w : World} {v : Value} (l : List Chg) (g : Nat) (p : Chg → Bool) (hv : RowO w v chC l) (hl : l.length ≤ 1000000) (hg : ∀ (args : Array Value) (w : World), (callFunc g args).run Tryz.prog w = .ok (.enter g args) w)
  (hp : ∀ x ∈ l, ∀ w', Kp w w' n_ → Calls Tryz.prog g #[.agg (chC x).toArray] w' fun e w'' => e = .returned (.bool (p x)) ∧ Kp w' w'' n_) :
  Calls Tryz.prog 25 #[v, .func (.func g) #[] #[]] w fun e w' => e = .returned (.bool (l.any p)) ∧ Kp w w' n_ := by
 have hv0 := hv
 obtain ⟨a, cap, rfl, hr⟩ := hv
 refine zaa (args := [.slice a l.length cap, .func (.func g) #[] #[]]) Tryz.func25 rfl NL ?_; refine GW ?_
 refine CallS.of (Tryz.call66 _ _) (znq l g p hv0 hl hg hp) ?_
 rintro e w1 ⟨rfl, k1⟩
 refine RT ?_
 refine ⟨zag ?_, k1⟩
 rw [Bool.eq_iff_iff, decide_eq_true_eq]
 exact zcu p l
end Go.Proofs.YtcplagfblmemhaaGreatDoor
