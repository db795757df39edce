/- Helper lemmas that the proved statement rests on; no conditions of their own. -/
import Derived.Laws.MakeOwn
import Derived.Laws.OwnMore
import Derived.Test.YtmjeacpoobbjjaaGreatDoorGWc4
set_option linter.unusedVariables false
namespace Go.Vc
open Go Go.Pw
theorem Br.yes {b : Bool} {p q : Prop} (h : b = true) (k : p) : Br b p q := ⟨fun _ => k, fun e => by rw [h] at e; cases e⟩
theorem Br.no {b : Bool} {p q : Prop} (h : b = false) (k : q) : Br b p q := ⟨fun e => (by rw [h] at e; cases e), fun _ => k⟩
theorem Br.beq {a b : Int} {p q : Prop} (h : a = b → p) (k : a ≠ b → q) : Br (a == b) p q := ⟨fun e => h (by simpa using e), fun e => k (by simpa using e)⟩
theorem Br.dec_yes {c : Prop} [Decidable c] {p q : Prop} (h : c) (k : p) : Br (decide c) p q := Br.yes (decide_eq_true h) k
theorem Br.dec_no {c : Prop} [Decidable c] {p q : Prop} (h : ¬ c) (k : q) : Br (decide c) p q := Br.no (decide_eq_false h) k
theorem Br.beq_yes {a b : Int} {p q : Prop} (h : a = b) (k : p) : Br (a == b) p q := Br.yes (by simpa using h) k
theorem Br.beq_no {a b : Int} {p q : Prop} (h : ¬ a = b) (k : q) : Br (a == b) p q := Br.no (by simpa using h) k
theorem Br.bne_yes {a b : Int} {p q : Prop} (h : ¬ a = b) (k : p) : Br (a != b) p q := Br.yes (by simpa using h) k
theorem Br.bne_no {a b : Int} {p q : Prop} (h : a = b) (k : q) : Br (a != b) p q := Br.no (by simpa using h) k
theorem Br.tt {p q : Prop} (k : p) : Br true p q := Br.yes rfl k
theorem Br.ff {p q : Prop} (k : q) : Br false p q := Br.no rfl k
theorem Br.not_yes {b : Bool} {p q : Prop} (k : Br b q p) : Br (!b) p q := ⟨fun e => k.f (by simpa using e), fun e => k.t (by simpa using e)⟩
theorem Num.i64 {e : Int} {K : Int → Prop} (h : -9223372036854775808 ≤ e) (h' : e ≤ 9223372036854775807) (k : K e) : Num .i64 e K := ⟨by
 have : IntKind.i64.wrap e = e := by unfold IntKind.wrap; simp [IntKind.signed, IntKind.bits]; omega
 rw [this]; exact k⟩
theorem Num.i32 {e : Int} {K : Int → Prop} (h : -2147483648 ≤ e) (h' : e ≤ 2147483647) (k : K e) : Num .i32 e K := ⟨by
 have : IntKind.i32.wrap e = e := by unfold IntKind.wrap; simp [IntKind.signed, IntKind.bits]; omega
 rw [this]; exact k⟩
theorem Num.u8 {e : Int} {K : Int → Prop} (h : 0 ≤ e) (h' : e ≤ 255) (k : K e) : Num .u8 e K := ⟨by
 have : IntKind.u8.wrap e = e := by unfold IntKind.wrap; simp [IntKind.signed, IntKind.bits]; omega
 rw [this]; exact k⟩
theorem Num.any {k : IntKind} {e : Int} {K : Int → Prop} (h : ∀ x, -9223372036854775808 ≤ x → x ≤ 9223372036854775807 → k = .i64 → K x) (hk : k = .i64) : Num k e K := ⟨by
 subst hk
 have : IntKind.i64.wrap e = (e + 2 ^ 63) % 2 ^ 64 - 2 ^ 63 := by unfold IntKind.wrap; simp [IntKind.signed, IntKind.bits]; omega
 exact h _ (by rw [this]; omega) (by rw [this]; omega) rfl⟩
theorem Idx.nat {j n : Nat} {K : Nat → Prop} (h : j < n) (k : K j) : Idx (j : Int) n K := ⟨j, rfl, h, k⟩
theorem Idx.lit {j n : Nat} {i : Int} {K : Nat → Prop} (e : i = j) (h : j < n) (k : K j) : Idx i n K := ⟨j, e, h, k⟩
theorem Idx.int {n : Nat} {i : Int} {K : Nat → Prop} (h0 : 0 ≤ i) (h : i < n) (k : K i.toNat) : Idx i n K := ⟨i.toNat, by omega, by omega, k⟩
def isAggB (P : Program) (t : TypeId) : Bool := match P.underlying t with | some (.struct _) => true | some (.array _ _) => true | some _ => false | none => true
theorem zhd {P : Program} {t : TypeId} (h : isAggB P t = false) (w : World) : (isAgg t).run P w = .ok false w := by
 unfold isAggB at h
 unfold isAgg
 split at h
 ·cases h
 ·cases h
 ·rename_i d h1 h2 hd
  simp only [Sem.run_bind, zat hd, Result.andThen_ok]
  rfl
 ·cases h
theorem Load.one {P : Program} {t : TypeId} {a : Addr} {w : World} {v : Value} {K : Value → Prop} (ht : isAggB P t = false) (h : w.cell? a = some v) (k : K v) : Load P t a w K :=
 ⟨v, by unfold loadVar; simp [zhd ht, load, Sem.run, h], k⟩
theorem Held.one {P : Program} {S : World → Prop} {t : TypeId} {a : Addr} {v : Value} {K : Value → Prop} (ht : isAggB P t = false) (h : ∀ w, S w → w.cell? a = some v) (k : K v) : Held P S t a K :=
 ⟨v, fun w hw => by unfold loadVar; simp [zhd ht, load, Sem.run, h w hw], k⟩
def sizeOfT (P : Program) (t : TypeId) : Option Nat := match P.info? t with | some i => some i.size | none => none
theorem Store.one {P : Program} {t : TypeId} {a : Addr} {w : World} {u v : Value} {K : World → Prop} (hs : sizeOfT P t = some 1) (hv : v.cells = #[v] ∧ (∀ cs, v ≠ .agg cs) ∧ ∀ cs, v ≠ .tuple cs) (h : w.cell? a = some u) (hf : w.frozen? a = false) (k : K (w.setCell a v)) : Store P t a v w K := by
 refine ⟨_, ?_, k⟩
 unfold sizeOfT at hs
 split at hs
 ·rename_i i hi
  have hs := Option.some.inj hs
  have e : a.add 0 = a := by simp [Addr.add]
  obtain ⟨h1, h2, h3⟩ := hv
  unfold storeVar
  have hsz : (sizeOf t).run P w = .ok 1 w := by rw [zbC hi, hs]
  simp [hsz, h1, storeCells, store, e]
  cases v <;> first | exact (h2 _ rfl).elim | exact (h3 _ rfl).elim | simp [Sem.run, h, hf]
 ·cases hs
theorem CallS.of {P : Program} {g : FuncId} {args : List Value} {w : World} {K : Value → World → Prop} {R : Ending → World → Prop}
  (hr : (callFunc g args.toArray).run P w = .ok (.enter g args.toArray) w) (h : Calls P g args.toArray w R) (k : ∀ e w', R e w' → ∃ v, e = .returned v ∧ K v w') : CallS P g args w K := ⟨.inl ⟨hr, h.mono k⟩⟩
theorem CallS.ext {P : Program} {g : FuncId} {args : List Value} {w w' : World} {v : Value} {K : Value → World → Prop} (hr : (callFunc g args.toArray).run P w = .ok (.value v) w') (k : K v w') : CallS P g args w K := ⟨.inr ⟨v, w', hr, k⟩⟩
theorem Cut.to {n len h : Nat} {K : Nat → Nat → Prop} (hh : h ≤ n) (q : K 0 h) : Cut none (some (h : Int)) n len K := ⟨0, h, .inr ⟨rfl, rfl⟩, .inl rfl, by omega, hh, q⟩
theorem Cut.from {n l len : Nat} {K : Nat → Nat → Prop} (hh : l ≤ len) (hn : len ≤ n) (q : K l len) : Cut (some (l : Int)) none n len K := ⟨l, len, .inl rfl, .inr ⟨rfl, rfl⟩, hh, hn, q⟩
theorem Cut.both {n l h len : Nat} {K : Nat → Nat → Prop} (hl : l ≤ h) (hh : h ≤ n) (q : K l h) : Cut (some (l : Int)) (some (h : Int)) n len K := ⟨l, h, .inl rfl, .inl rfl, hl, hh, q⟩
theorem RunV.of {P : Program} {s : Sem Value} {w w' : World} {v : Value} {K : Value → World → Prop} (h : s.run P w = .ok v w') (k : K v w') : RunV P s w K := ⟨v, w', h, k⟩
theorem RunV.cat {P : Program} {w : World} {a c : ByteArray} {K : Value → World → Prop} (h : a.size + c.size ≤ 9223372036854775807) (k : K (.string (a ++ c)) w) : RunV P (Op.stringOp .add a c) w K := by
 refine ⟨_, w, ?_, k⟩
 have e : ¬ ((a.size + c.size : Nat) : Int) > IntKind.i64.max := by
  have : IntKind.i64.max = 9223372036854775807 := by decide
  rw [this]; omega
 simp only [Op.stringOp]
 rw [if_neg e]
 rfl
end Go.Vc
namespace Go.Vc
theorem zcA {k : IntKind} {a b : Int} (h : a = b) : Ending.returned (.int k a) = .returned (.int k b) := by rw [h]
theorem zeW {a b : Bool} (h : a = b) : Ending.returned (.bool a) = .returned (.bool b) := by rw [h]
theorem zlb {a b : ByteArray} (h : a = b) : Ending.returned (.string a) = .returned (.string b) := by rw [h]
theorem v_int {k : IntKind} {a b : Int} (h : a = b) : Value.int k a = .int k b := by rw [h]
end Go.Vc
namespace Go.Vc
open Go Go.Pw
theorem ziy {P : Program} {t : TypeId} (h : isAggB P t = true) (hu : (P.underlying t).isSome = true) (w : World) : (isAgg t).run P w = .ok true w := by
 unfold isAggB at h
 unfold isAgg
 split at h
 ·rename_i fs hd; simp only [Sem.run_bind, zat hd, Result.andThen_ok]; rfl
 ·rename_i n e hd; simp only [Sem.run_bind, zat hd, Result.andThen_ok]; rfl
 ·cases h
 ·rename_i hd; rw [hd] at hu; cases hu
def At (w : World) (b o : Nat) (vs : List Value) : Prop := ∀ i v, vs[i]? = some v → w.cell? ⟨b, o + i, none⟩ = some v
theorem zcL {P : Program} {w : World} {b o : Nat} : ∀ (vs : List Value) (i : Nat) (acc : Array Value), At w b (o + i) vs → (loadCellsFrom ⟨b, o, none⟩ i vs.length acc).run P w = .ok (acc ++ vs.toArray) w
 | [], i, acc, h => by simp [loadCellsFrom]
 | v :: r, i, acc, h => by
  have h0 : w.cell? ⟨b, o + i, none⟩ = some v := by simpa using h 0 v rfl
  have hr : At w b (o + (i + 1)) r := fun j u hj => by
   have := h (j + 1) u (by simpa using hj)
   rw [show o + (i + 1) + j = o + i + (j + 1) by omega]; exact this
  have e := zcL (P := P) r (i + 1) (acc.push v) hr
  simp only [List.length_cons, loadCellsFrom, Sem.run_bind, load, zaH, Sem.run, h0]
  simp only [Result.andThen_ok]
  rw [e]
  simp
theorem Load.agg {P : Program} {t : TypeId} {b o : Nat} {w : World} (vs : List Value) {K : Value → Prop} (ht : isAggB P t = true) (hu : (P.underlying t).isSome = true) (hs : sizeOfT P t = some vs.length) (h : At w b o vs) (k : K (.agg vs.toArray)) : Load P t ⟨b, o, none⟩ w K := by
 refine ⟨_, ?_, k⟩
 unfold sizeOfT at hs
 split at hs
 ·rename_i i hi
  have hs := Option.some.inj hs
  have e := zcL (P := P) (w := w) vs 0 #[] (by simpa using h)
  unfold loadVar
  simp [ziy ht hu, zbC hi, hs, loadCells, e]
 ·cases hs
theorem zhl {w : World} {b : Nat} {c : Array Value} {T : TypeId} {fr : Nat × Nat} (h : w.heap[b]? = some (.cells c T fr)) : At w b 0 c.toList := fun i v hi => by
 unfold World.cell?
 dsimp only
 rw [h]
 simpa using hi
def Flat : Value → Prop
 | .agg _ | .tuple _ => False
 | _ => True
theorem zgn (w : World) (c : Array Value) (T : TypeId) (i : Nat) (v : Value) : (w.alloc (.cells c T)).setCell ⟨w.heap.size, i, none⟩ v = w.alloc (.cells (c.setIfInBounds i v) T) := by
 unfold World.setCell World.alloc
 congr 1
 apply Array.ext_getElem?
 intro j
 simp only [Array.getElem?_modify, Array.getElem?_push]
 by_cases hj : w.heap.size = j
 ·subst hj; simp
 ·rw [if_neg hj, if_neg (fun h => hj h.symm), if_neg (fun h => hj h.symm)]
theorem zfl {P : Program} {w : World} {T : TypeId} : ∀ (vs : List Value) (i : Nat) (c : Array Value), (∀ v ∈ vs, Flat v) → i + vs.length ≤ c.size →
  (storeCells ⟨w.heap.size, 0, none⟩ vs i).run P (w.alloc (.cells c T)) = .ok () (w.alloc (.cells (vs.zipIdx.foldl (fun cs p => cs.setIfInBounds (i + p.2) p.1) c) T))
 | [], i, c, _, _ => by simp [storeCells]
 | v :: r, i, c, hf, hl => by
  have hl' : i + r.length + 1 ≤ c.size := by simpa [Nat.add_assoc] using hl
  have hc : (w.alloc (.cells c T)).cell? ⟨w.heap.size, i, none⟩ = some (c[i]'(by omega)) := by
   rw [World.cell?_alloc_new]; exact Array.getElem?_eq_getElem (by omega)
  have hfr : (w.alloc (.cells c T)).frozen? ⟨w.heap.size, i, none⟩ = false := World.frozen?_alloc_new _ _ _ _
  have hv : Flat v := hf v (by simp)
  have e := zfl (P := P) (w := w) (T := T) r (i + 1) (c.setIfInBounds i v) (fun u hu => hf u (by simp [hu])) (by simp; omega)
  have hz : (v :: r).zipIdx.foldl (fun cs p => cs.setIfInBounds (i + p.2) p.1) c = r.zipIdx.foldl (fun cs p => cs.setIfInBounds (i + 1 + p.2) p.1) (c.setIfInBounds i v) := by
   rw [List.zipIdx_cons, List.foldl_cons]
   have : r.zipIdx (0 + 1) = r.zipIdx.map (fun p => (p.1, p.2 + 1)) := by
    rw [List.zipIdx_succ]
   rw [this, List.foldl_map]
   congr 1
   funext cs p; rw [show i + (p.2 + 1) = i + 1 + p.2 by omega]
  rw [hz, ← e, ← zgn]
  simp only [storeCells, zaH, Nat.zero_add, Sem.run_bind, store]
  cases v <;> first | exact hv.elim | simp [Sem.run, hc, hfr]
theorem zjU (vs : List Value) : ∀ (c : Array Value), vs.length = c.size → vs.zipIdx.foldl (fun cs p => cs.setIfInBounds (0 + p.2) p.1) c = vs.toArray := by
 have key : ∀ (vs : List Value) (k : Nat) (c : Array Value), k + vs.length = c.size → (vs.zipIdx k).foldl (fun cs p => cs.setIfInBounds (0 + p.2) p.1) c = (c.toList.take k ++ vs).toArray := by
  intro vs
  induction vs with
  | nil =>
   intro k c h
   apply Array.ext'
   simp only [List.zipIdx_nil, List.foldl_nil, List.append_nil]
   rw [List.take_of_length_le]; simp at h ⊢; omega
  | cons v r ih =>
   intro k c h
   rw [List.zipIdx_cons, List.foldl_cons, ih (k + 1) _ (by simp at h ⊢; omega)]
   congr 1
   simp only [Nat.zero_add, Array.toList_setIfInBounds]
   have hk : k < c.toList.length := by simp at h ⊢; omega
   rw [List.take_succ_eq_append_getElem (by simpa using hk), List.getElem_set_self, List.take_set_of_le (Nat.le_refl _)]
   simp
 intro c h
 simpa using key vs 0 c (by simpa using h)
theorem Store.fresh {P : Program} {t T : TypeId} {w : World} {c : Array Value} {vs : List Value} {K : World → Prop} (hs : sizeOfT P t = some vs.length) (hc : c.size = vs.length) (hf : ∀ v ∈ vs, Flat v) (k : K (w.alloc (.cells vs.toArray T))) :
  Store P t ⟨w.heap.size, 0, none⟩ (.agg vs.toArray) (w.alloc (.cells c T)) K := by
 refine ⟨_, ?_, k⟩
 unfold sizeOfT at hs
 split at hs
 ·rename_i i hi
  have hs := Option.some.inj hs
  unfold storeVar
  have e := zfl (P := P) (w := w) (T := T) vs 0 c hf (by omega)
  rw [zjU vs c hc.symm] at e
  simp [zbC hi, hs, Value.cells, e]
 ·cases hs
def makeT (P : Program) (t : TypeId) : Option (TypeId × Value × Nat) :=
 match P.underlying t with
 | some (.slice e) => (match P.info? e with
   | some i => (match Nat.beq i.size 1, i.zero with
     | true, some z => some (e, z, i.bytes)
     | _, _ => none)
   | none => none)
 | _ => none
theorem zfb (z : Value) (n : Nat) (hz : z.cells = #[z]) : madeCells z.cells n = Array.replicate n z := by
 unfold madeCells
 rw [hz]
 apply Array.ext
 ·simp
 ·intro i h1 h2
  simp [Nat.mod_one]
theorem RunV.make {P : Program} {t e : TypeId} {z : Value} {bytes : Nat} {k k' : IntKind} {w : World} {K : Value → World → Prop} (l c : Nat) (hm : makeT P t = some (e, z, bytes)) (hz : z.cells = #[z]) (hl : l ≤ c) (hb : bytes * c ≤ 281474976710656) (h63 : c ≤ 9223372036854775807)
  (q : K (.slice (some ⟨w.heap.size, 0, none⟩) l c) (w.alloc (.cells (Array.replicate c z) e))) : RunV P (Instr.makeSlice t (.int k (l : Int)) (.int k' (c : Int))) w K := by
 unfold makeT at hm
 split at hm
 ·rename_i e' ht
  split at hm
  ·rename_i i hi
   split at hm
   ·rename_i z' h1 hz'
    simp only [Option.some.injEq, Prod.mk.injEq] at hm
    obtain ⟨rfl, rfl, rfl⟩ := hm
    have h1 : i.size = 1 := Nat.eq_of_beq_eq_true h1
    have hb' : (i.bytes : Int) * (c : Int) ≤ 281474976710656 := by
     have h : ((i.bytes * c : Nat) : Int) ≤ 281474976710656 := by omega
     rwa [Int.natCast_mul] at h
    have hr := run_make (P := P) w t e' i z' ht hi hz' k k' l c (by omega) (by omega) hb' (by omega)
    simp only [Int.toNat_natCast, h1, Nat.mul_one, zfb z' c hz] at hr
    exact ⟨_, _, hr, q⟩
   ·cases hm
  ·cases hm
 ·cases hm
def setCells (b : Nat) : List Value → Nat → World → World
 | [], _, w => w
 | v :: r, i, w => setCells b r (i + 1) (w.setCell ⟨b, i, none⟩ v)
theorem zdG {P : Program} {b o : Nat} : ∀ (vs : List Value) (i : Nat) (w : World), (∀ v ∈ vs, Flat v) → (∀ j, j < vs.length → ∃ u, w.cell? ⟨b, o + i + j, none⟩ = some u) → (∀ j, w.frozen? ⟨b, j, none⟩ = false) →
  (storeCells ⟨b, o, none⟩ vs i).run P w = .ok () (setCells b vs (o + i) w)
 | [], i, w, _, _, _ => by simp [storeCells, setCells]
 | v :: r, i, w, hf, hc, hz => by
  obtain ⟨u, hu⟩ := hc 0 (by simp)
  have hv : Flat v := hf v (by simp)
  have hu : w.cell? ⟨b, o + i, none⟩ = some u := hu
  have e := zdG (P := P) (o := o) r (i + 1) (w.setCell ⟨b, o + i, none⟩ v) (fun x hx => hf x (by simp [hx])) (fun j hj => by
   obtain ⟨u', hu'⟩ := hc (j + 1) (by simp; omega)
   have : (⟨b, o + i, none⟩ : Addr) ≠ ⟨b, o + (i + 1) + j, none⟩ := fun e => by injection e; omega
   exact ⟨u', by rw [World.cell?_setCell_other (h := this), show o + (i + 1) + j = o + i + (j + 1) by omega]; exact hu'⟩) (fun j => by rw [World.frozen?_setCell]; exact hz j)
  show (storeCells ⟨b, o, none⟩ (v :: r) i).run P w = .ok () (setCells b r (o + i + 1) (w.setCell ⟨b, o + i, none⟩ v))
  rw [show o + i + 1 = o + (i + 1) by omega, ← e]
  simp only [storeCells, zaH, Sem.run_bind, store]
  cases v <;> first | exact hv.elim | simp [Sem.run, hu, hz]
theorem Store.agg {P : Program} {t : TypeId} {w : World} {b o : Nat} (vs : List Value) {K : World → Prop} (hs : sizeOfT P t = some vs.length) (hf : ∀ v ∈ vs, Flat v) (hc : ∀ j, j < vs.length → ∃ u, w.cell? ⟨b, o + j, none⟩ = some u) (hz : ∀ j, w.frozen? ⟨b, j, none⟩ = false)
  (k : K (setCells b vs o w)) : Store P t ⟨b, o, none⟩ (.agg vs.toArray) w K := by
 refine ⟨_, ?_, k⟩
 unfold sizeOfT at hs
 split at hs
 ·rename_i i hi
  have hs := Option.some.inj hs
  have e := zdG (P := P) (b := b) (o := o) vs 0 w hf (by simpa using hc) hz
  unfold storeVar
  simp [zbC hi, hs, Value.cells, e]
 ·cases hs
theorem RunN.append {P : Program} {w : World} {K : Value → World → Prop} {t ty : TypeId} {cs : Array Bool} (base e : Nat) (i : TypeInfo) (z : Value) (size bytes : Nat) (ht : P.underlying t = some (.slice e)) (hi : P.info? e = some i) (hz : i.zero = some z)
  (hsize : i.size = size) (hby : i.bytes = bytes) (hzs : z.cells.size = size) (hsz : 0 < size) (v : Value) (n : Nat) (xs : List Value) (hown : w.ownsRow base e size v n xs)
  (a : Addr) (m c : Nat) (news : List Value) (hl : news.length = m * size) (hnews : ∀ j u, news[j]? = some u → w.cell? (a.add j) = some u) (h1 : ∀ u ∈ news, u.oneCell' = true)
  (h63 : n + m ≤ maxLen) (hbytes : (n + m) * bytes ≤ 140737488355328) (hbase : base ≤ w.heap.size)
  (k : ∀ v' w', w'.ownsRow base e size v' (n + m) (xs ++ news) → w.grownBy w' v.ownBlock → (v' = .slice none 0 0 ↔ v = .slice none 0 0 ∧ m = 0) → K v' w') : RunN P (builtin .append #[t, t] ty cs [v, .slice (some a) m c].toArray) w K := by
 obtain ⟨v', w', h1', h2, h3, h4⟩ := run_append_own (P := P) w base t ty e i z size bytes ht hi hz hsize hby hzs hsz v n xs hown a m c news hl hnews h1 h63 hbytes hbase
 refine ⟨v', w', ?_, k v' w' h2 h3 h4⟩
 show (do pure (Next.value (← Builtin.append_ #[t, t] ty #[v, .slice (some a) m c])) : Sem Next).run P w = _
 simp [h1']
end Go.Vc
namespace Go.Pw
open Go
set_option linter.unusedSectionVars false
section
variable {P : Program} {ops : Array Oper} {S : World → Prop} {hs : Option Tmp → Bool}
theorem anyOrderZ {Q : Exit → Act → World → Prop} {m : Array Nat} (ok : TextOkH P hs ops m) {z : Nat} (hz : z + 1 = ops.size) (hall : ∀ j, j < z → (m.getD z 0).testBit j = true) : ∀ (fuel : Nat) (L : List Nat) (listed : Array Bool) (a : Act) (w : World),
  L.length = fuel → listed.size = ops.size → Closed ops listed → L.Pairwise (· < ·) → (∀ j ∈ L, j < z) → (∀ j, j < ops.size → (listed.getD j false = false ↔ j ∈ L ∨ j = z)) →
  S w → wpIh P S hs ops (fun a w => S w → TI P ops z (fun a w => Q .normal a w) a w) L a w → wpAnyX P .any ops (Q .normal) (fuel + 1) listed a w := by
 intro fuel
 induction fuel with
 | zero =>
  intro L listed a w hlen hsz hcl hpw hlt' hmem hw0 h
  obtain rfl : L = [] := List.eq_nil_of_length_eq_zero hlen
  have hzl : listed.getD z false = false := (hmem z (by omega)).2 (.inr rfl)
  have hrd : ∀ i, i ∈ Region.ready .any ops listed ↔ i = z := by
   intro i
   constructor
   ·intro hi
    obtain ⟨h0, o, ho, _⟩ := mem_ready.1 hi
    have hlt : i < ops.size := (Array.getElem?_eq_some_iff.1 ho).1
    have h0' : listed.getD i false = false := by
     have : i < listed.size := by omega
     simp [this] at h0 ⊢; exact h0
    rcases (hmem i hlt).1 h0' with h | h
    ·cases h
    ·exact h
   ·rintro rfl
    refine mem_ready.2 ⟨?_, ops[i]'(by omega), Array.getElem?_eq_getElem (by omega), fun e he hb => ?_⟩
    ·have : i < listed.size := by omega
     simp [this] at hzl ⊢; exact hzl
    ·have hlt' := ok.back i _ (Array.getElem?_eq_getElem (by omega)) e he hb
     cases hl : listed.getD e.on false with
     | true => rfl
     | false =>
      rcases (hmem e.on (by omega)).1 hl with h | h
      ·cases h
      ·omega
  refine ⟨fun hr => ?_, fun i hi => ?_⟩
  ·have := (hrd z).2 rfl
   rw [hr] at this; cases this
  ·obtain rfl := (hrd i).1 hi
   refine zcE (TI_mono (fun a w h => ?_) (h hw0))
   refine ⟨?_, h⟩
   refine List.eq_nil_iff_forall_not_mem.2 fun j hj => ?_
   obtain ⟨h0, o, ho, _⟩ := mem_ready.1 hj
   have hlt : j < ops.size := (Array.getElem?_eq_some_iff.1 ho).1
   by_cases hji : j = i
   ·subst hji
    have : j < listed.size := by omega
    simp [this] at h0
   ·have h0' : listed.getD j false = false := by
     have h1 : j < listed.size := by omega
     have h2 : (listed.setIfInBounds i true).getD j false = false := by
      simp [h1] at h0 ⊢; exact h0
     rwa [getD_set_ne false (fun h => hji h.symm)] at h2
    rcases (hmem j hlt).1 h0' with h | h
    ·cases h
    ·exact hji h
 | succ fuel ih =>
  intro L listed a w hlen hsz hcl hpw hlt' hmem hw0 h
  refine ⟨fun hr => ?_, fun i hi => ?_⟩
  ·cases L with
   | nil => cases hlen
   | cons i L =>
    exfalso
    have hiz := hlt' i List.mem_cons_self
    have h0 : listed.getD i false = false := (hmem i (by omega)).2 (.inl List.mem_cons_self)
    have hrdy : i ∈ Region.ready .any ops listed := by
     refine mem_ready.2 ⟨?_, ops[i]'(by omega), Array.getElem?_eq_getElem (by omega), fun e he hb => ?_⟩
     ·have : i < listed.size := by omega
      simp [this] at h0 ⊢; exact h0
     ·have hlt2 := ok.back i _ (Array.getElem?_eq_getElem (by omega)) e he hb
      cases hl : listed.getD e.on false with
      | true => rfl
      | false =>
       rcases (hmem e.on (by omega)).1 hl with hin | hin
       ·rcases List.mem_cons.1 hin with heq | hin
        ·omega
        ·have := (List.pairwise_cons.1 hpw).1 _ hin; omega
       ·omega
    rw [hr] at hrdy; cases hrdy
  ·obtain ⟨h0, o, ho, hdeps⟩ := mem_ready.1 hi
   have hlt : i < ops.size := (Array.getElem?_eq_some_iff.1 ho).1
   have hil : i < listed.size := by omega
   have h0' : listed.getD i false = false := by simp [hil] at h0 ⊢; exact h0
   have hin : i ∈ L := by
    rcases (hmem i hlt).1 h0' with h | h
    ·exact h
    ·exfalso
     subst h
     obtain ⟨j, L', rfl⟩ := List.exists_cons_of_ne_nil (l := L) (by rintro rfl; simp at hlen)
     have hjz := hlt' j List.mem_cons_self
     have := zbs ok hcl i i o (Nat.le_refl _) ho hdeps j hjz (hall j hjz)
     rw [(hmem j (by omega)).2 (.inl List.mem_cons_self)] at this; cases this
   obtain ⟨pre, post, rfl⟩ := List.append_of_mem hin
   have hpre : ∀ j ∈ pre, j < i := fun j hj => (List.pairwise_append.1 hpw).2.2 j hj i List.mem_cons_self
   have hiz : i < z := hlt' i hin
   refine zbo (fun a w h => ?_) (zbt (bubbleH ok ho pre post (fun j hj => ⟨hpre j hj, ?_⟩) a w hw0 h) hw0)
   ·refine ih (pre ++ post) _ a w (by simp at hlen ⊢; omega) (by simp [hsz]) ?_ ?_ ?_ ?_ h.1 h.2
    ·intro k p hk hl e he hb
     by_cases hki : k = i
     ·subst hki
      obtain rfl : p = o := Option.some.inj (hk.symm.trans ho)
      exact getD_set_true (hdeps e he hb)
     ·rw [getD_set_ne false (fun h => hki h.symm)] at hl
      exact getD_set_true (hcl k p hk hl e he hb)
    ·exact hpw.sublist (List.Sublist.append_left (List.sublist_cons_self _ _) _)
    ·intro j hj
     rcases List.mem_append.1 hj with hj | hj
     ·exact hlt' j (List.mem_append_left _ hj)
     ·exact hlt' j (List.mem_append_right _ (List.mem_cons_of_mem _ hj))
    ·intro j hjs
     have hne : j ∈ pre ++ post → j ≠ i := fun hj e => by
      subst e
      rcases List.mem_append.1 hj with hj | hj
      ·have := hpre _ hj; omega
      ·have := (List.pairwise_cons.1 (List.pairwise_append.1 hpw).2.1).1 _ hj; omega
     constructor
     ·intro k2
      have hji : j ≠ i := fun e => by subst e; simp [hil] at k2
      rw [getD_set_ne false (fun h => hji h.symm)] at k2
      rcases (hmem j hjs).1 k2 with hj | hj
      ·left
       rcases List.mem_append.1 hj with hj | hj
       ·exact List.mem_append_left _ hj
       ·rcases List.mem_cons.1 hj with rfl | hj
        ·exact absurd rfl hji
        ·exact List.mem_append_right _ hj
      ·exact .inr hj
     ·intro hj
      have hji : j ≠ i := by
       rcases hj with hj | hj
       ·exact hne hj
       ·omega
      rw [getD_set_ne false (fun h => hji h.symm)]
      refine (hmem j hjs).2 ?_
      rcases hj with hj | hj
      ·left
       rcases List.mem_append.1 hj with hj | hj
       ·exact List.mem_append_left _ hj
       ·exact List.mem_append_right _ (List.mem_cons_of_mem _ hj)
      ·exact .inr hj
   ·cases hm : (m.getD i 0).testBit j with
    | false => rfl
    | true =>
     have hl := zbs ok hcl i i o (Nat.le_refl _) ho hdeps j (hpre j hj) hm
     have := (hmem j (by have := hpre j hj; omega)).2 (.inl (List.mem_append_left _ hj))
     rw [hl] at this; cases this
theorem zhc {Q : Act → World → Prop} (l : List Oper) : ∀ k, (∀ j, j < l.length → l[j]? = ops[k + j]?) → wpIh P S hs ops Q (List.range' k l.length) = wpTh P S hs ops Q l := by
 induction l with
 | nil => intro k _; rfl
 | cons o l ih =>
  intro k h
  have h0 : ops[k]? = some o := by simpa using (h 0 (by simp)).symm
  have ih' := ih (k + 1) (fun j hj => by have := h (j + 1) (by simp; omega); simpa [Nat.add_assoc, Nat.add_comm 1 j] using this)
  funext a w
  simp only [List.length_cons, List.range'_succ, wpIh, TIh, h0, wpTh, ih']
def lastB (ops : Array Oper) : Bool := (List.range (ops.size - 1)).all fun j => ((Region.before ops).getD (ops.size - 1) 0).testBit j
theorem zca {Q : Exit → Act → World → Prop} {id : Nat} {pre : List Oper} {o : Oper} {a : Act} {w : World} (hm : P.follows .mixedOrders = true) (hs : Option Tmp → Bool) (S : World → Prop) (hw0 : S w.drew)
  (hB : textH P hs (pre ++ [o]).toArray = true) (hL : lastB (pre ++ [o]).toArray = true)
  (h : wpTh P S hs (pre ++ [o]).toArray (fun a w => S w → T1 P (pre ++ [o]).toArray o (fun a w => Q .normal a w) a w) pre a w.drew) : (Code.region id (pre ++ [o]).toArray true).wpX P Q a w := by
 refine zaO hm ?_
 have ok := zcB hB
 have hz : ∀ j, (Array.replicate (pre ++ [o]).toArray.size false).getD j false = false := fun j => by
  simp only [Array.getD_eq_getD_getElem?, Array.getElem?_replicate]; split <;> rfl
 have hsz : (pre ++ [o]).toArray.size = pre.length + 1 := by simp
 have hget : (pre ++ [o]).toArray[pre.length]? = some o := by simp
 have key := anyOrderZ (S := S) (Q := Q) ok (z := pre.length) hsz.symm (fun j hj => by
  unfold lastB at hL
  rw [hsz] at hL
  simpa using List.all_eq_true.1 hL j (by simpa using hj)) pre.length (List.range pre.length) (Array.replicate (pre ++ [o]).toArray.size false) a w.drew (by simp) (by simp) ?_ ?_ ?_ ?_ hw0 ?_
 ·rw [hsz] at key ⊢; exact key
 ·intro i o _ hl; rw [hz] at hl; cases hl
 ·exact List.pairwise_lt_range
 ·intro j hj; simpa using hj
 ·intro j hj
  rw [hz, hsz] at *
  simp
  omega
 ·have e := zhc (P := P) (S := S) (hs := hs) (ops := (pre ++ [o]).toArray) (Q := fun a w => S w → TI P (pre ++ [o]).toArray pre.length (fun a w => Q .normal a w) a w) pre 0 (fun j hj => by rw [Nat.zero_add]; simp [List.getElem?_append_left hj])
  rw [show List.range pre.length = List.range' 0 pre.length from by simp [List.range_eq_range'], e]
  have e2 : (fun a w => S w → TI P (pre ++ [o]).toArray pre.length (fun a w => Q .normal a w) a w) = (fun a w => S w → T1 P (pre ++ [o]).toArray o (fun a w => Q .normal a w) a w) := by
   funext a w
   unfold TI
   simp only [hget]
  rw [e2]
  exact h
end
end Go.Pw
namespace Go.Vc
open Go Go.Pw
theorem Draw.heldLast {P : Program} {n : Nat} {K : Exit → Fr → World → Prop} {id : Nat} {ops : Array Oper} {t : List It} {f : Fr} {w : World} (S : World → Prop) (hs : Option Tmp → Bool) (pre : List Oper) (o : Oper) (he : ops = (pre ++ [o]).toArray) (hB : textH P hs ops = true) (hL : lastB ops = true) (hw : S w.drew)
  (h : Sat P n K .normal (.opsH S hs ops.toList pre :: .ops ops.toList [o] true :: t) f w.drew) : Draw P n K id ops t f w :=
 ⟨fun hm hf => by
  subst he
  refine zca hm hs S hw hB hL ?_
  have h1 := h.h hf
  have h1 : S w.drew → wpTh P S hs (pre ++ [o]).toArray (fun a w => S w → Lift n (after P n (.ops (pre ++ [o]).toArray.toList [o] true :: t) K .normal) a w) pre (act n f) w.drew := h1
  have mono : ∀ (l : List Oper) (Q Q' : Act → World → Prop), (∀ a w, Q a w → Q' a w) → ∀ a w, S w → wpTh P S hs (pre ++ [o]).toArray Q l a w → wpTh P S hs (pre ++ [o]).toArray Q' l a w := by
   intro l
   induction l with
   | nil => intro Q Q' hq a w _ h; exact hq a w h
   | cons x r ih => intro Q Q' hq a w hw h; exact T1h_mono hw (fun a w hS hh => ih Q Q' hq a w hS hh) h
  refine mono pre _ _ ?_ _ _ hw (h1 hw)
  rintro a w hk hS
  obtain ⟨g, hg, e, hk2⟩ := hk hS
  subst e
  have hk3 : T1 P (pre ++ [o]).toArray o (wpT P (pre ++ [o]).toArray (Lift n (after P n t K .normal)) []) (act n g) w := hk2
  exact hk3⟩
theorem Draw.heldEnd {P : Program} {n : Nat} {K : Exit → Fr → World → Prop} {id : Nat} {ops : Array Oper} {t : List It} {f : Fr} {w : World} (S : World → Prop) (hs : Option Tmp → Bool) (hn : ops.toList ≠ []) (hB : textH P hs ops = true) (hL : lastB ops = true) (hw : S w.drew)
  (h : Sat P n K .normal (.opsH S hs ops.toList ops.toList.dropLast :: .ops ops.toList [ops.toList.getLast hn] true :: t) f w.drew) : Draw P n K id ops t f w :=
 Draw.heldLast S hs _ _ (by rw [List.dropLast_concat_getLast hn]) hB hL hw h
def Var1 (w : World) (b : Nat) (T : TypeId) (v : Value) : Prop := w.heap[b]? = some (.cells #[v] T (0, 0))
theorem Var1.cell {w : World} {b : Nat} {T : TypeId} {v : Value} (h : Var1 w b T v) : w.cell? ⟨b, 0, none⟩ = some v := by
 unfold World.cell?; dsimp only; rw [h]; rfl
theorem Var1.frozen {w : World} {b : Nat} {T : TypeId} {v : Value} (h : Var1 w b T v) : w.frozen? ⟨b, 0, none⟩ = false := by
 unfold World.frozen?; dsimp only; rw [h]; rfl
theorem Var1.lt {w : World} {b : Nat} {T : TypeId} {v : Value} (h : Var1 w b T v) : b < w.heap.size := by
 rcases Nat.lt_or_ge b w.heap.size with h' | h'
 ·exact h'
 ·unfold Var1 at h; rw [Array.getElem?_eq_none h'] at h; cases h
theorem Var1.set {w : World} {b : Nat} {T : TypeId} {v : Value} (h : Var1 w b T v) (u : Value) : Var1 (w.setCell ⟨b, 0, none⟩ u) b T u := by
 unfold Var1 at *
 simp [World.setCell, Array.getElem?_modify, h]
theorem Var1.keep {w w' : World} {b : Nat} {T : TypeId} {v : Value} {c : Nat → Prop} (h : Var1 w b T v) (k : Kp w w' c) (hc : ¬ c b) : Var1 w' b T v := (k.block b h.lt hc).trans h
theorem Var1.ne {w : World} {b b' : Nat} {T T' : TypeId} {v u : Value} (h : Var1 w b T v) (h' : Var1 w b' T' u) (hT : T ≠ T') : b ≠ b' := by
 rintro rfl
 unfold Var1 at *
 rw [h] at h'
 injection h' with h'
 injection h' with _ h' _
 exact hT h'
end Go.Vc
