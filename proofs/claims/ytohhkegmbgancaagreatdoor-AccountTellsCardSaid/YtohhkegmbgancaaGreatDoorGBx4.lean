/- Helper text of this claim: lemmas and contracts that the proved statement rests on; no conditions of its own. -/
import Derived.Lib.SlicesCompact
import Derived.Test.YtohhkegmbgancaaGreatDoorGBx0
namespace Go.Cs
open Go.Lib
set_option linter.unusedVariables false
set_option linter.unusedSectionVars false
section
variable {l : List Bx} (hr : RightP l) {x : Bx} (hx : x ∈ l) {up : Int} (hup : up = 0 ∨ ∃ c ∈ l, c.id = up) (hn : ¬ Reach l x.id up)
include hr
theorem zcu (hup : up = 0 ∨ ∃ c ∈ l, c.id = up) : Dep l (dpt l up) up ∧ dpt l up ≤ 8 := by
 rcases hup with rfl | ⟨c, hc, rfl⟩
 ·have : Dep l 0 0 := rfl
  rw [zfY this]; exact ⟨this, Nat.zero_le _⟩
 ·obtain ⟨d, h, h8⟩ := hr.dep hc
  rw [zfY h]; exact ⟨h, h8⟩
theorem zeK (id up : Int) : (setUp l id up).Pairwise fun a b => a.id < b.id := by
 unfold setUp
 rw [List.pairwise_map]
 refine hr.asc.imp fun {a b} h => ?_
 have e : ∀ c : Bx, (if c.id = id then { c with up := up } else c).id = c.id := fun c => by split <;> rfl
 rw [e, e]; exact h
theorem zbE {id up : Int} {c : Bx} : c ∈ setUp l id up ↔ ∃ b ∈ l, c = if b.id = id then { b with up := up } else b := by
 unfold setUp
 rw [List.mem_map]
 exact ⟨fun ⟨b, h1, h2⟩ => ⟨b, h1, h2.symm⟩, fun ⟨b, h1, h2⟩ => ⟨b, h1, h2.symm⟩⟩
include hx
theorem zfe : upOf (setUp l x.id up) x.id = some up := by
 rw [zdd (zeK hr _ _)]
 exact ⟨{ x with up := up }, (zbE hr).2 ⟨x, hx, by rw [if_pos rfl]⟩, rfl, rfl⟩
omit hx in
theorem zcn {id y u : Int} (hy : y ≠ id) : upOf (setUp l id up) y = some u ↔ upOf l y = some u := by
 rw [zdd (zeK hr _ _), zdd hr.asc]
 constructor
 ·rintro ⟨b, hb, rfl, rfl⟩
  obtain ⟨c, hc, rfl⟩ := (zbE hr).1 hb
  by_cases e : c.id = id
  ·rw [if_pos e] at hy; exact absurd e hy
  ·rw [if_neg e]; exact ⟨c, hc, rfl, rfl⟩
 ·rintro ⟨b, hb, rfl, rfl⟩
  exact ⟨b, (zbE hr).2 ⟨b, hb, by rw [if_neg hy]⟩, rfl, rfl⟩
omit hx in
theorem zhS {id : Int} : ∀ (d : Nat) (y : Int), ¬ Reach l id y → Dep l d y → Dep (setUp l id up) d y
 | 0, y, _, h => h
 | d + 1, y, hy, ⟨h0, u, hu, h⟩ => ⟨h0, u, (zcn hr (fun e => hy (by rw [e]; exact .here))).2 hu, zhS d u (fun e => hy (.up hu e)) h⟩
theorem znQ {di du : Nat} (hi : Dep l di x.id) (hu : Dep l du up) (hn : ¬ Reach l x.id up) : ∀ (d : Nat) (y : Int), Reach l x.id y → Dep l d y → di ≤ d ∧ Dep (setUp l x.id up) (d - di + du + 1) y
 | 0, y, hy, h => by
  have h0 : y = 0 := h
  cases hy with
  | here => exact absurd (hr.pos x hx).1 (by omega)
  | up e _ => rw [h0, zbu, zeW hr] at e; cases e
 | d + 1, y, hy, ⟨h0, u, hu2, h⟩ => by
  by_cases e : y = x.id
  ·subst e
   have := Dep.inj hi (show Dep l (d + 1) x.id from ⟨h0, u, hu2, h⟩)
   refine ⟨by omega, ?_⟩
   rw [show d + 1 - di + du + 1 = du + 1 by omega]
   exact ⟨h0, up, zfe hr hx, zhS hr _ _ hn hu⟩
  ·cases hy with
   | here => exact absurd rfl e
   | up k hk =>
    rw [k] at hu2
    obtain rfl := Option.some.inj hu2
    obtain ⟨g1, g2⟩ := znQ hi hu hn d _ hk h
    refine ⟨by omega, ?_⟩
    rw [show d + 1 - di + du + 1 = (d - di + du + 1) + 1 by omega]
    exact ⟨h0, _, (zcn hr e).2 k, g2⟩
include hup hn
theorem zgV {y : Bx} (hy : y ∈ l) : ∃ d, Dep (setUp l x.id up) d y.id ∧ (within l y.id x.id = true → dpt l x.id ≤ dpt l y.id ∧ d = dpt l y.id - dpt l x.id + dpt l up + 1) ∧ (¬ within l y.id x.id = true → d ≤ 8) := by
 have hx0 : x.id ≠ 0 := by have := (hr.pos x hx).1; omega
 obtain ⟨dy, h1, h2⟩ := hr.dep hy
 obtain ⟨dx, h3, h4⟩ := hr.dep hx
 obtain ⟨h5, h6⟩ := zcu hr hup
 have hw := zbr hr hx0 h1
 by_cases hc : Reach l x.id y.id
 ·obtain ⟨g1, g2⟩ := znQ hr hx h3 h5 hn dy y.id hc h1
  refine ⟨_, g2, fun _ => ?_, fun h => absurd (hw.2 hc) h⟩
  rw [zfY h1, zfY h3]
  exact ⟨g1, rfl⟩
 ·exact ⟨dy, zhS hr dy y.id hc h1, fun h => absurd (hw.1 h) hc, fun _ => h2⟩
omit hr hx hup hn in
theorem zju (f : Bx → Bool) (g : Bx → Nat) (N : Nat) : ∀ (l : List Bx) (m : Nat), l.foldl (fun m b => if f b then max m (g b) else m) m ≤ N ↔ m ≤ N ∧ ∀ b ∈ l, f b = true → g b ≤ N
 | [], m => by simp
 | b :: l, m => by
  rw [List.foldl_cons, zju f g N l]
  constructor
  ·rintro ⟨h1, h2⟩
   split at h1
   ·rename_i hf
    refine ⟨by omega, fun c hc hf2 => ?_⟩
    rcases List.mem_cons.1 hc with rfl | hc
    ·omega
    ·exact h2 c hc hf2
   ·rename_i hf
    refine ⟨h1, fun c hc hf2 => ?_⟩
    rcases List.mem_cons.1 hc with rfl | hc
    ·exact absurd hf2 hf
    ·exact h2 c hc hf2
  ·rintro ⟨h1, h2⟩
   refine ⟨?_, fun c hc => h2 c (by simp [hc])⟩
   split
   ·rename_i hf
    have := h2 b (by simp) hf
    omega
   ·exact h1
theorem zeQ : dpt l up + belowL l x.id ≤ 8 ↔ ∀ b ∈ setUp l x.id up, ∃ d, Dep (setUp l x.id up) d b.id ∧ d ≤ 8 := by
 have hidem : ∀ b ∈ setUp l x.id up, ∃ y ∈ l, y.id = b.id := fun b hb => by
  obtain ⟨y, hy, rfl⟩ := (zbE hr).1 hb
  exact ⟨y, hy, by split <;> rfl⟩
 have h8 := (zcu hr hup).2
 have hb := zju (fun b => within l b.id x.id) (fun b => dpt l b.id - dpt l x.id + 1) (8 - dpt l up) l 0
 have hbb : belowL l x.id ≤ 8 - dpt l up ↔ dpt l up + belowL l x.id ≤ 8 := by omega
 rw [← hbb]
 refine hb.trans ⟨?_, ?_⟩
 ·rintro ⟨_, h⟩ b hb2
  obtain ⟨y, hy, he⟩ := hidem b hb2
  obtain ⟨d, g1, g2, g3⟩ := zgV hr hx hup hn hy
  rw [he] at g1
  refine ⟨d, g1, ?_⟩
  by_cases hw : within l y.id x.id = true
  ·have := h y hy hw
   have := (g2 hw).2
   omega
  ·exact g3 hw
 ·intro h
  refine ⟨Nat.zero_le _, fun y hy hw => ?_⟩
  obtain ⟨d, g1, g2, g3⟩ := zgV hr hx hup hn hy
  have hb3 : (if y.id = x.id then { y with up := up } else y) ∈ setUp l x.id up := (zbE hr).2 ⟨y, hy, rfl⟩
  obtain ⟨e, h1, h2⟩ := h _ hb3
  rw [show (if y.id = x.id then { y with up := up } else y : Bx).id = y.id by split <;> rfl] at h1
  have := Dep.inj g1 h1
  have := (g2 hw).2
  omega
end
theorem zlF {l : List Bx} (hr : RightP l) {b : Bx} (h1 : namedB b.name = true) (h2 : b.role ∈ rolesL) (h3 : 1 ≤ b.id ∧ b.id ≤ 1099511627776) (h4 : ∀ c ∈ l, c.id ≠ b.id) (h5 : b.role ≠ [] → ∀ c ∈ l, c.role ≠ b.role) (h6 : l.length < 64)
  (h7 : b.up = 0 ∨ ∃ c ∈ l, c.id = b.up) (h8 : dpt l b.up < 8) (h9 : takenL l b.up b.name 0 = false) : RightP (insL l b) := by
 have ht := (zcH _ _ _ _).1 h9
 have hasc := zmd hr.asc h4
 have hc : ∀ d id, (id = 0 ∨ ∃ c ∈ l, c.id = id) → Dep l d id → Dep (insL l b) d id := fun d id => Dep.congr (fun id => id = 0 ∨ ∃ c ∈ l, c.id = id) (fun id u hs hu => by
  obtain ⟨c, hc, rfl, rfl⟩ := zbG hu
  exact ⟨(zdd hasc).2 ⟨c, mem_ins.2 (.inr hc), rfl, rfl⟩, up_cases hr hc⟩) d id
 have mem : ∀ {p : Bx → Prop}, p b → (∀ c ∈ l, p c) → ∀ c ∈ insL l b, p c := fun hb hl c hc => by
  rcases mem_ins.1 hc with rfl | hc
  ·exact hb
  ·exact hl c hc
 refine ⟨by rw [zpd]; omega, mem h3 hr.pos, hasc, mem h1 hr.named, mem h2 hr.roles, zjl hr.uniq (fun c hc e => ?_) (fun c hc e => ?_), zjl hr.urole (fun c hc e => h5 e.1 c hc e.2) (fun c hc e => ?_), mem ?_ fun c hc2 => ?_⟩
 ·exact ht c hc e.1 (by have := (hr.pos c hc).1; omega) e.2
 ·exact ht c hc e.1.symm (by have := (hr.pos c hc).1; omega) e.2.symm
 ·exact h5 (by rw [e.2]; exact e.1) c hc e.2.symm
 ·obtain ⟨g1, _⟩ := zcu hr h7
  exact zeL (d := dpt l b.up + 1) ⟨by omega, b.up, (zdd hasc).2 ⟨b, mem_ins.2 (.inl rfl), rfl, rfl⟩, hc _ _ h7 g1⟩ (by omega)
 ·obtain ⟨d, g1, g2⟩ := hr.dep hc2
  exact zeL (hc d _ (.inr ⟨c, hc2, rfl⟩) g1) g2
theorem zjN {l : List Bx} (hr : RightP l) {x : Bx} (hx : x ∈ l) {nm : List UInt8} (h1 : namedB nm = true) (h2 : takenL l x.up nm x.id = false) : RightP (setName l x.id nm) := by
 have ht := (zcH _ _ _ _).1 h2
 have hid : ∀ c : Bx, (if c.id = x.id then { c with name := nm } else c).id = c.id := fun c => by split <;> rfl
 have hupc : ∀ c : Bx, (if c.id = x.id then { c with name := nm } else c).up = c.up := fun c => by split <;> rfl
 have hrole : ∀ c : Bx, (if c.id = x.id then { c with name := nm } else c).role = c.role := fun c => by split <;> rfl
 have hasc : (setName l x.id nm).Pairwise fun a b => a.id < b.id := by
  unfold setName
  rw [List.pairwise_map]
  exact hr.asc.imp fun {a b} h => by rw [hid, hid]; exact h
 have mem : ∀ {p : Bx → Prop}, (∀ c ∈ l, p (if c.id = x.id then { c with name := nm } else c)) → ∀ c ∈ setName l x.id nm, p c := fun h c hc => by
  obtain ⟨b, hb, rfl⟩ := List.mem_map.1 hc
  exact h b hb
 have hup : ∀ id u, upOf l id = some u → upOf (setName l x.id nm) id = some u := fun id u h => by
  obtain ⟨c, hc, rfl, rfl⟩ := zbG h
  exact (zdd hasc).2 ⟨_, List.mem_map.2 ⟨c, hc, rfl⟩, hid c, hupc c⟩
 refine ⟨by unfold setName; rw [List.length_map]; exact hr.len, mem fun c hc => by rw [hid]; exact hr.pos c hc, hasc, mem fun c hc => ?_, mem fun c hc => by rw [hrole]; exact hr.roles c hc, ?_, ?_, mem fun c hc => ?_⟩
 ·split
  ·exact h1
  ·exact hr.named c hc
 ·unfold setName
  rw [List.pairwise_map]
  refine (hr.asc.and hr.uniq).imp_of_mem fun {a b} ha hb h e => ?_
  obtain ⟨g1, g2⟩ := h
  rw [hupc, hupc] at e
  by_cases ea : a.id = x.id
  ·have := zcy hr.asc ha hx ea
   subst this
   rw [if_pos rfl, if_neg (by omega)] at e
   exact ht b hb e.1.symm (by omega) e.2.symm
  ·by_cases eb : b.id = x.id
   ·have := zcy hr.asc hb hx eb
    subst this
    rw [if_pos rfl, if_neg (by omega)] at e
    exact ht a ha e.1 (by omega) e.2
   ·rw [if_neg ea, if_neg eb] at e
    exact g2 e
 ·unfold setName
  rw [List.pairwise_map]
  exact hr.urole.imp fun {a b} h => by rw [hrole, hrole]; exact h
 ·obtain ⟨d, g1, g2⟩ := hr.dep hc
  rw [hid]
  exact zeL (b := c) (Dep.congr (fun _ => True) (fun id u _ hu => ⟨hup id u hu, trivial⟩) d _ trivial g1) g2
theorem zjO {l : List Bx} (hr : RightP l) {x : Bx} (hx : x ∈ l) {up : Int} (hup : up = 0 ∨ ∃ c ∈ l, c.id = up) (hn : ¬ Reach l x.id up) (h8 : dpt l up + belowL l x.id ≤ 8) (h2 : takenL l up x.name x.id = false) : RightP (setUp l x.id up) := by
 have ht := (zcH _ _ _ _).1 h2
 have hid : ∀ c : Bx, (if c.id = x.id then { c with up := up } else c).id = c.id := fun c => by split <;> rfl
 have hname : ∀ c : Bx, (if c.id = x.id then { c with up := up } else c).name = c.name := fun c => by split <;> rfl
 have hrole : ∀ c : Bx, (if c.id = x.id then { c with up := up } else c).role = c.role := fun c => by split <;> rfl
 have mem : ∀ {p : Bx → Prop}, (∀ c ∈ l, p (if c.id = x.id then { c with up := up } else c)) → ∀ c ∈ setUp l x.id up, p c := fun h c hc => by
  obtain ⟨b, hb, rfl⟩ := List.mem_map.1 hc
  exact h b hb
 refine ⟨by unfold setUp; rw [List.length_map]; exact hr.len, mem fun c hc => by rw [hid]; exact hr.pos c hc, zeK hr _ _, mem fun c hc => by rw [hname]; exact hr.named c hc, mem fun c hc => by rw [hrole]; exact hr.roles c hc, ?_, ?_, fun b hb => ?_⟩
 ·unfold setUp
  rw [List.pairwise_map]
  refine (hr.asc.and hr.uniq).imp_of_mem fun {a b} ha hb h e => ?_
  obtain ⟨g1, g2⟩ := h
  rw [hname, hname] at e
  by_cases ea : a.id = x.id
  ·have := zcy hr.asc ha hx ea
   subst this
   rw [if_pos rfl, if_neg (by omega)] at e
   exact ht b hb e.1.symm (by omega) e.2.symm
  ·by_cases eb : b.id = x.id
   ·have := zcy hr.asc hb hx eb
    subst this
    rw [if_pos rfl, if_neg (by omega)] at e
    exact ht a ha e.1 (by omega) e.2
   ·rw [if_neg ea, if_neg eb] at e
    exact g2 e
 ·unfold setUp
  rw [List.pairwise_map]
  exact hr.urole.imp fun {a b} h => by rw [hrole, hrole]; exact h
 ·obtain ⟨d, g1, g2⟩ := (zeQ hr hx hup hn).1 h8 b hb
  exact zeL g1 g2
theorem zki {l : List Bx} (hr : RightP l) {id : Int} (h : ∀ b ∈ l, b.up ≠ id) : RightP (delL l id) := by
 have hsub : (delL l id).Sublist l := List.filter_sublist
 have hm : ∀ {c : Bx}, c ∈ delL l id ↔ c ∈ l ∧ c.id ≠ id := by
  intro c
  unfold delL
  rw [List.mem_filter, decide_eq_true_eq]
 have hasc := hr.asc.sublist hsub
 refine ⟨Nat.le_trans hsub.length_le hr.len, fun b hb => hr.pos b (hsub.mem hb), hasc, fun b hb => hr.named b (hsub.mem hb), fun b hb => hr.roles b (hsub.mem hb), hr.uniq.sublist hsub, hr.urole.sublist hsub, fun b hb => ?_⟩
 obtain ⟨d, g1, g2⟩ := hr.dep (hsub.mem hb)
 refine zeL (Dep.congr (fun i => i = 0 ∨ ∃ c ∈ delL l id, c.id = i) (fun i u hs hu => ?_) d _ (.inr ⟨b, hb, rfl⟩) g1) g2
 obtain ⟨c, hc, rfl, rfl⟩ := zbG hu
 have hci : c ∈ delL l id := by
  rcases hs with hs | ⟨e, he, hs⟩
  ·have := (hr.pos c hc).1; omega
  ·rw [← zcy hr.asc (hsub.mem he) hc hs]; exact he
 refine ⟨(zdd hasc).2 ⟨c, hci, rfl, rfl⟩, ?_⟩
 rcases up_cases hr hc with h0 | ⟨e, he, h0⟩
 ·exact .inl h0
 ·exact .inr ⟨e, hm.2 ⟨he, fun e2 => h c hc (by omega)⟩, h0⟩
theorem zlG : ∀ {a b : List Bx}, (a.Pairwise fun x y => x.id < y.id) → (b.Pairwise fun x y => x.id < y.id) → (∀ c, c ∈ a ↔ c ∈ b) → a = b
 | [], [], _, _, _ => rfl
 | [], y :: s, _, _, h => absurd ((h y).2 (by simp)) (by simp)
 | x :: r, [], _, _, h => absurd ((h x).1 (by simp)) (by simp)
 | x :: r, y :: s, ha, hb, h => by
  obtain ⟨a1, a2⟩ := List.pairwise_cons.1 ha
  obtain ⟨b1, b2⟩ := List.pairwise_cons.1 hb
  have hxy : x = y := by
   rcases List.mem_cons.1 ((h x).1 (by simp)) with e | e
   ·exact e
   ·rcases List.mem_cons.1 ((h y).2 (by simp)) with k | k
    ·exact k.symm
    ·have := b1 x e; have := a1 y k; omega
  subst hxy
  congr 1
  refine zlG a2 b2 fun c => ?_
  have := h c
  simp only [List.mem_cons] at this
  constructor
  ·intro hc
   rcases this.1 (.inr hc) with rfl | k
   ·have := a1 c hc; omega
   ·exact k
  ·intro hc
   rcases this.2 (.inr hc) with rfl | k
   ·have := b1 c hc; omega
   ·exact k
theorem zis {l : List Bx} {id : Int} {c : Bx} : c ∈ delL l id ↔ c ∈ l ∧ c.id ≠ id := by
 unfold delL
 rw [List.mem_filter, decide_eq_true_eq]
theorem zob {l : List Bx} (h : l.Pairwise fun a b => a.id < b.id) (id : Int) : (delL l id).Pairwise fun a b => a.id < b.id := h.sublist List.filter_sublist
theorem zoo {l : List Bx} (h : l.Pairwise fun a b => a.id < b.id) {b : Bx} (hb : ∀ c ∈ l, c.id ≠ b.id) : delL (insL l b) b.id = l :=
 zlG (zob (zmd h hb) _) h fun c => by
  rw [zis, mem_ins]
  constructor
  ·rintro ⟨rfl | h1, h2⟩
   ·exact absurd rfl h2
   ·exact h1
  ·exact fun h1 => ⟨.inr h1, hb c h1⟩
theorem zgD {l : List Bx} (h : l.Pairwise fun a b => a.id < b.id) {x : Bx} (hx : x ∈ l) (nm : List UInt8) : setName (setName l x.id nm) x.id x.name = l := by
 unfold setName
 rw [List.map_map]
 conv => rhs; rw [← List.map_id l]
 refine List.map_congr_left fun b hb => ?_
 simp only [Function.comp]
 by_cases e : b.id = x.id
 ·have := zcy h hb hx e
  subst this
  simp
 ·simp [e]
theorem zeR {l : List Bx} (h : l.Pairwise fun a b => a.id < b.id) {x : Bx} (hx : x ∈ l) (up : Int) : setUp (setUp l x.id up) x.id x.up = l := by
 unfold setUp
 rw [List.map_map]
 conv => rhs; rw [← List.map_id l]
 refine List.map_congr_left fun b hb => ?_
 simp only [Function.comp]
 by_cases e : b.id = x.id
 ·have := zcy h hb hx e
  subst this
  simp
 ·simp [e]
theorem Reach.dep {l : List Bx} (hz : upOf l 0 = none) {b y : Int} (h : Reach l b y) : ∀ {d : Nat}, Dep l d y → ∃ e, e ≤ d ∧ Dep l e b := by
 induction h with
 | here => intro d hd; exact ⟨d, Nat.le_refl _, hd⟩
 | @up id u hu _ ih =>
  intro d hd
  cases d with
  | zero =>
   have h0 : id = 0 := hd
   rw [h0, hz] at hu; cases hu
  | succ d =>
   obtain ⟨h0, v, hv, hd⟩ := hd
   rw [hu] at hv
   obtain rfl := Option.some.inj hv
   obtain ⟨e, h1, h2⟩ := ih hd
   exact ⟨e, by omega, h2⟩
theorem RightP.zero {l : List Bx} (hr : RightP l) : upOf l 0 = none := by rw [zbu, zeW hr]; rfl
theorem zjS {l : List Bx} (hr : RightP l) {x up y : Int} (h : Reach (setUp l x up) x y) : Reach l x y := by
 induction h with
 | here => exact .here
 | @up id u hu _ ih =>
  by_cases e : id = x
  ·rw [e]; exact .here
  ·exact .up ((zcn hr e).1 hu) ih
theorem ziv {l : List Bx} (hr : RightP l) {x : Bx} (hx : x ∈ l) : ¬ Reach l x.id x.up := fun h => by
 obtain ⟨d, h1, h2, h3, h4⟩ := zmv hr hx
 obtain ⟨e, g1, g2⟩ := h.dep hr.zero ((zbZ _ _ _ _).1 h4).1
 have := Dep.inj g2 ((zbZ _ _ _ _).1 h3).1
 omega
structure AddOk (l : List Bx) (b : Bx) : Prop where
 name : namedB b.name = true
 role : b.role ∈ rolesL
 id : 1 ≤ b.id ∧ b.id ≤ 1099511627776
 new : ∀ c ∈ l, c.id ≠ b.id
 once : b.role ≠ [] → ∀ c ∈ l, c.role ≠ b.role
 len : l.length < 64
 up : b.up = 0 ∨ ∃ c ∈ l, c.id = b.up
 deep : dpt l b.up < 8
 free : takenL l b.up b.name 0 = false
theorem zlg {l : List Bx} (up : Int) (name role : List UInt8) (id : Int) : (addL l up name role id).2 = 0 ↔ RightP l ∧ AddOk l ⟨id, up, name, role⟩ := by
 unfold addL
 rw [← zaE]
 by_cases h1 : rightL l = true ∧ namedB name = true ∧ role ∈ rolesL
 ·rw [if_neg (by simpa using h1)]
  by_cases h2 : id < 1 ∨ 1099511627776 < id
  ·rw [if_pos h2]
   exact ⟨fun e => (by cases e), fun e => by have := e.2.id; dsimp only at this; omega⟩
  ·rw [if_neg h2]
   by_cases h3 : hasId l id = true ∨ role ≠ [] ∧ (l.any fun b => decide (b.role = role)) = true
   ·rw [if_pos h3]
    refine ⟨fun e => (by cases e), fun e => ?_⟩
    rcases h3 with h3 | ⟨h3, h4⟩
    ·obtain ⟨c, hc, he⟩ := (zar _ _).1 h3
     exact absurd he (e.2.new c hc)
    ·obtain ⟨c, hc, he⟩ := List.any_eq_true.1 h4
     exact absurd (by simpa using he) (e.2.once h3 c hc)
   ·rw [if_neg h3]
    by_cases h5 : 64 ≤ l.length
    ·rw [if_pos h5]
     exact ⟨fun e => (by cases e), fun e => by have := e.2.len; omega⟩
    ·rw [if_neg h5]
     by_cases h6 : up = 0 ∨ hasId l up = true
     ·rw [if_neg (fun hn => hn h6)]
      by_cases h7 : 8 ≤ dpt l up
      ·rw [if_pos h7]
       exact ⟨fun e => (by cases e), fun e => by have := e.2.deep; dsimp only at this; omega⟩
      ·rw [if_neg h7]
       by_cases h8 : takenL l up name 0 = true
       ·rw [if_pos h8]
        exact ⟨fun e => (by cases e), fun e => by have := e.2.free; dsimp only at this; rw [h8] at this; cases this⟩
       ·rw [if_neg h8]
        refine ⟨fun _ => ⟨h1.1, h1.2.1, h1.2.2, ?_, ?_, ?_, by omega, ?_, ?_, by simpa using h8⟩, fun _ => rfl⟩
        ·dsimp only; omega
        ·intro c hc e; exact h3 (.inl ((zar _ _).2 ⟨c, hc, e⟩))
        ·intro hne c hc e; exact h3 (.inr ⟨hne, List.any_eq_true.2 ⟨c, hc, by simpa using e⟩⟩)
        ·dsimp only; rw [← zar]; exact h6
        ·dsimp only; omega
     ·rw [if_pos h6]
      refine ⟨fun e => (by cases e), fun e => ?_⟩
      have := e.2.up
      dsimp only at this
      rw [← zar] at this
      exact absurd this h6
 ·rw [if_pos (by simpa using h1)]
  exact ⟨fun e => (by cases e), fun e => absurd ⟨e.1, e.2.name, e.2.role⟩ h1⟩
theorem zof {l : List Bx} {up : Int} {name role : List UInt8} {id : Int} : (addL l up name role id).1 = if (addL l up name role id).2 = 0 then insL l ⟨id, up, name, role⟩ else [] := by
 unfold addL
 repeat' split
 all_goals first | rfl | contradiction
theorem ziM {l : List Bx} (id : Int) (nm : List UInt8) : (nameL l id nm).2 = 0 ↔ RightP l ∧ ∃ x ∈ l, x.id = id ∧ namedB nm = true ∧ takenL l x.up nm id = false := by
 unfold nameL
 by_cases h1' : rightL l = true
 ·have h1 := (zaE l).1 h1'
  rw [if_neg (by simpa using h1')]
  cases hb : boxOf l id with
  | none => exact ⟨fun e => (by cases e), fun ⟨_, x, hx, he, _⟩ => absurd he (zce.1 hb x hx)⟩
  | some b =>
   obtain ⟨hm, rfl⟩ := zbO hb
   dsimp only
   by_cases h2 : namedB nm = true
   ·rw [if_neg (by simpa using h2)]
    by_cases h3 : takenL l b.up nm b.id = true
    ·rw [if_pos h3]
     refine ⟨fun e => (by cases e), fun ⟨_, x, hx, he, _, h⟩ => ?_⟩
     rw [zcy h1.asc hx hm he] at h
     rw [h3] at h; cases h
    ·rw [if_neg h3]
     exact ⟨fun _ => ⟨h1, b, hm, rfl, h2, by simpa using h3⟩, fun _ => rfl⟩
   ·rw [if_pos (by simpa using h2)]
    exact ⟨fun e => (by cases e), fun ⟨_, x, hx, he, h, _⟩ => absurd h h2⟩
 ·rw [if_pos (by simpa using h1')]
  exact ⟨fun e => (by cases e), fun e => absurd ((zaE l).2 e.1) h1'⟩
theorem zjx {l : List Bx} {id : Int} {nm : List UInt8} : (nameL l id nm).1 = if (nameL l id nm).2 = 0 then setName l id nm else [] := by
 unfold nameL
 repeat' split
 all_goals first | rfl | contradiction
structure MoveOk (l : List Bx) (x : Bx) (up : Int) : Prop where
 par : up = 0 ∨ ∃ c ∈ l, c.id = up
 loop : ¬ Reach l x.id up
 deep : dpt l up + belowL l x.id ≤ 8
 free : takenL l up x.name x.id = false
theorem zdu {l : List Bx} (hr : RightP l) {x : Bx} (hx : x ∈ l) {up : Int} (hup : up = 0 ∨ ∃ c ∈ l, c.id = up) : (up ≠ 0 ∧ within l up x.id = true) ↔ Reach l x.id up := by
 have hx0 : x.id ≠ 0 := by have := (hr.pos x hx).1; omega
 rcases hup with rfl | ⟨c, hc, rfl⟩
 ·constructor
  ·exact fun h => absurd rfl h.1
  ·intro h
   generalize hz : (0 : Int) = z at h
   cases h with
   | here => exact absurd hz.symm hx0
   | up e _ => rw [← hz, hr.zero] at e; cases e
 ·obtain ⟨d, hd, _⟩ := hr.dep hc
  rw [zbr hr hx0 hd]
  have : c.id ≠ 0 := by have := (hr.pos c hc).1; omega
  exact ⟨fun h => h.2, fun h => ⟨this, h⟩⟩
theorem ziN {l : List Bx} (id up : Int) : (moveL l id up).2 = 0 ↔ RightP l ∧ ∃ x ∈ l, x.id = id ∧ MoveOk l x up := by
 unfold moveL
 by_cases h1' : rightL l = true
 ·have h1 := (zaE l).1 h1'
  rw [if_neg (by simpa using h1')]
  cases hb : boxOf l id with
  | none => exact ⟨fun e => (by cases e), fun ⟨_, x, hx, he, _⟩ => absurd he (zce.1 hb x hx)⟩
  | some b =>
   obtain ⟨hm, rfl⟩ := zbO hb
   dsimp only
   have back : ∀ {p : Prop}, (MoveOk l b up → p) → (RightP l ∧ ∃ x ∈ l, x.id = b.id ∧ MoveOk l x up) → p := fun hp ⟨_, x, hx, he, h⟩ => by
    rw [zcy h1.asc hx hm he] at h
    exact hp h
   by_cases h2 : up = 0 ∨ hasId l up = true
   ·rw [if_neg (fun hn => hn h2)]
    have h2' : up = 0 ∨ ∃ c ∈ l, c.id = up := by rwa [zar] at h2
    by_cases h3 : up ≠ 0 ∧ within l up b.id = true
    ·rw [if_pos h3]
     exact ⟨fun e => (by cases e), back fun h => absurd ((zdu h1 hm h2').1 h3) h.loop⟩
    ·rw [if_neg h3]
     by_cases h4 : 8 < dpt l up + belowL l b.id
     ·rw [if_pos h4]
      exact ⟨fun e => (by cases e), back fun h => by have := h.deep; omega⟩
     ·rw [if_neg h4]
      by_cases h5 : takenL l up b.name b.id = true
      ·rw [if_pos h5]
       exact ⟨fun e => (by cases e), back fun h => by have := h.free; rw [h5] at this; cases this⟩
      ·rw [if_neg h5]
       exact ⟨fun _ => ⟨h1, b, hm, rfl, h2', fun e => h3 ((zdu h1 hm h2').2 e), by omega, by simpa using h5⟩, fun _ => rfl⟩
   ·rw [if_pos h2]
    exact ⟨fun e => (by cases e), back fun h => absurd (by rw [zar]; exact h.par) h2⟩
 ·rw [if_pos (by simpa using h1')]
  exact ⟨fun e => (by cases e), fun e => absurd ((zaE l).2 e.1) h1'⟩
theorem zjp {l : List Bx} {id up : Int} : (moveL l id up).1 = if (moveL l id up).2 = 0 then setUp l id up else [] := by
 unfold moveL
 repeat' split
 all_goals first | rfl | contradiction
theorem zjf {l : List Bx} (id : Int) : (dropL l id).2 = 0 ↔ RightP l ∧ (∃ x ∈ l, x.id = id) ∧ ∀ b ∈ l, b.up ≠ id := by
 unfold dropL
 by_cases h1' : rightL l = true
 ·have h1 := (zaE l).1 h1'
  rw [if_neg (by simpa using h1')]
  by_cases h2 : hasId l id = true
  ·rw [if_neg (by simpa using h2)]
   by_cases h3 : (l.any fun b => decide (b.up = id)) = true
   ·rw [if_pos h3]
    obtain ⟨c, hc, he⟩ := List.any_eq_true.1 h3
    exact ⟨fun e => (by cases e), fun e => absurd (by simpa using he) (e.2.2 c hc)⟩
   ·rw [if_neg h3]
    refine ⟨fun _ => ⟨h1, (zar _ _).1 h2, fun b hb e => h3 (List.any_eq_true.2 ⟨b, hb, by simpa using e⟩)⟩, fun _ => rfl⟩
  ·rw [if_pos (by simpa using h2)]
   exact ⟨fun e => (by cases e), fun e => absurd ((zar _ _).2 e.2.1) h2⟩
 ·rw [if_pos (by simpa using h1')]
  exact ⟨fun e => (by cases e), fun e => absurd ((zaE l).2 e.1) h1'⟩
theorem zjv {l : List Bx} {id : Int} : (dropL l id).1 = if (dropL l id).2 = 0 then delL l id else [] := by
 unfold dropL
 repeat' split
 all_goals first | rfl | contradiction
theorem ziu {α β : Type} {p : α × β} {a : α} {b : β} (h1 : p.1 = a) (h2 : p.2 = b) : p = (a, b) := by
 obtain ⟨x, y⟩ := p
 cases h1; cases h2; rfl
theorem ziI {l : List Bx} {b : Bx} (hr : RightP l) (h : AddOk l b) : RightP (insL l b) ∧ dropL (insL l b) b.id = (l, 0) := by
 have hm := zlF hr h.name h.role h.id h.new h.once h.len h.up h.deep h.free
 have h2 : (dropL (insL l b) b.id).2 = 0 := by
  rw [zjf]
  refine ⟨hm, ⟨b, mem_ins.2 (.inl rfl), rfl⟩, fun c hc e => ?_⟩
  have hb := h.id
  rcases mem_ins.1 hc with rfl | hc
  ·rcases h.up with h0 | ⟨d, hd, he⟩
   ·omega
   ·exact h.new d hd (by omega)
  ·rcases up_cases hr hc with h0 | ⟨d, hd, he⟩
   ·omega
   ·exact h.new d hd (by omega)
 refine ⟨hm, ziu ?_ h2⟩
 rw [zjv, if_pos h2, zoo hr.asc h.new]
theorem zma {l : List Bx} {x : Bx} (hr : RightP l) (hx : x ∈ l) {nm : List UInt8} (h1 : namedB nm = true) (h2 : takenL l x.up nm x.id = false) : RightP (setName l x.id nm) ∧ nameL (setName l x.id nm) x.id x.name = (l, 0) := by
 have hm := zjN hr hx h1 h2
 have h3 : (nameL (setName l x.id nm) x.id x.name).2 = 0 := by
  rw [ziM]
  refine ⟨hm, { x with name := nm }, List.mem_map.2 ⟨x, hx, by rw [if_pos rfl]⟩, rfl, hr.named x hx, (zcH _ _ _ _).2 fun b hb e1 e2 e3 => ?_⟩
  obtain ⟨c, hc, rfl⟩ := List.mem_map.1 hb
  by_cases e : c.id = x.id
  ·rw [if_pos e] at e2; exact e2 e
  ·rw [if_neg e] at e1 e2 e3
   exact e (by rw [zkP hr hc hx e1 e3])
 refine ⟨hm, ziu ?_ h3⟩
 rw [zjx, if_pos h3, zgD hr.asc hx]
theorem zlf {l : List Bx} {x : Bx} (hr : RightP l) (hx : x ∈ l) {up : Int} (h : MoveOk l x up) : RightP (setUp l x.id up) ∧ moveL (setUp l x.id up) x.id x.up = (l, 0) := by
 have hm := zjO hr hx h.par h.loop h.deep h.free
 have hx' : { x with up := up } ∈ setUp l x.id up := (zbE hr).2 ⟨x, hx, by rw [if_pos rfl]⟩
 have hup : x.up = 0 ∨ ∃ c ∈ setUp l x.id up, c.id = x.up := by
  rcases up_cases hr hx with h0 | ⟨c, hc, h0⟩
  ·exact .inl h0
  ·exact .inr ⟨_, (zbE hr).2 ⟨c, hc, rfl⟩, by split <;> exact h0⟩
 have hno : ¬ Reach (setUp l x.id up) x.id x.up := fun e => ziv hr hx (zjS hr e)
 have h3 : (moveL (setUp l x.id up) x.id x.up).2 = 0 := by
  rw [ziN]
  refine ⟨hm, { x with up := up }, hx', rfl, hup, hno, ?_, (zcH _ _ _ _).2 fun b hb e1 e2 e3 => ?_⟩
  ·have := (zeQ hm hx' hup hno).2
   refine this ?_
   rw [show setUp (setUp l x.id up) ({ x with up := up } : Bx).id x.up = l from zeR hr.asc hx up]
   exact fun b hb => hr.dep hb
  ·obtain ⟨c, hc, rfl⟩ := (zbE hr).1 hb
   by_cases e : c.id = x.id
   ·rw [if_pos e] at e2; exact e2 e
   ·rw [if_neg e] at e1 e2 e3
    exact e (congrArg Bx.id (zkP hr hc hx e1 e3))
 refine ⟨hm, ziu ?_ h3⟩
 rw [zjp, if_pos h3, zeR hr.asc hx]
section
end
section
end
structure Dg where
 (d0 d1 d2 d3 d4 d5 d6 d7 d8 d9 d10 d11 d12 d13 d14 d15 d16 d17 d18 d19 d20 d21 d22 d23 d24 d25 d26 d27 d28 d29 d30 d31 : Int)
deriving DecidableEq
structure Ml where
 id : Int
 blob : Dg
 boxes : List Int
 flags : List (List UInt8)
 at_ : Int
 size : Int
 mod : Int
deriving DecidableEq
structure Sc where
 name : List UInt8
 text : List UInt8
deriving DecidableEq
structure Sn where
 key : List UInt8
 at_ : Int
deriving DecidableEq
structure Acc where
 boxes : List Bx
 mails : List Ml
 scripts : List Sc
 active : List UInt8
 seen : List Sn
 nm : Int
 nb : Int
 st : Int
deriving DecidableEq
structure Opr where
 kind : Int
 id : Int
 box : Int
 up : Int
 name : List UInt8
 role : List UInt8
 text : List UInt8
 blob : Dg
 boxes : List Int
 add : List (List UInt8)
 drop : List (List UInt8)
 at_ : Int
 size : Int
 if_ : Int
structure STO {α : Type} (lt : α → α → Bool) : Prop where
 irr : ∀ a, lt a a = false
 tr : ∀ a b c, lt a b = true → lt b c = true → lt a c = true
 tri : ∀ a b, lt a b = false → lt b a = false → a = b
def insD {α : Type} (lt : α → α → Bool) (x : α) : List α → List α
 | [] => [x]
 | y :: r => if lt y x = true then y :: insD lt x r else if lt x y = true then x :: y :: r else y :: r
def sortD {α : Type} (lt : α → α → Bool) (l : List α) : List α := l.foldl (fun a x => insD lt x a) []
def AscB {α : Type} (lt : α → α → Bool) (l : List α) : Prop := l.Pairwise fun a b => lt a b = true
section
variable {α : Type} {lt : α → α → Bool}
theorem zgR (h : STO lt) (x z : α) : ∀ l : List α, z ∈ insD lt x l ↔ z = x ∨ z ∈ l
 | [] => by simp [insD]
 | y :: r => by
  unfold insD
  split
  ·rw [List.mem_cons, zgR h x z r, List.mem_cons]
   constructor
   ·rintro (e | e | e)
    ·exact .inr (.inl e)
    ·exact .inl e
    ·exact .inr (.inr e)
   ·rintro (e | e | e)
    ·exact .inr (.inl e)
    ·exact .inl e
    ·exact .inr (.inr e)
  ·rename_i h1
   split
   ·simp
   ·rename_i h2
    obtain rfl : y = x := h.tri y x (by simpa using h1) (by simpa using h2)
    simp
theorem ziJ (h : STO lt) (x : α) : ∀ l : List α, AscB lt l → AscB lt (insD lt x l)
 | [], _ => by simp [insD, AscB]
 | y :: r, hl => by
  obtain ⟨h1, h2⟩ := List.pairwise_cons.1 hl
  unfold insD
  split
  ·rename_i hy
   refine List.pairwise_cons.2 ⟨fun z hz => ?_, ziJ h x r h2⟩
   rcases (zgR h x z r).1 hz with rfl | hz
   ·exact hy
   ·exact h1 z hz
  ·split
   ·rename_i hy
    refine List.pairwise_cons.2 ⟨fun z hz => ?_, hl⟩
    rcases List.mem_cons.1 hz with rfl | hz
    ·exact hy
    ·exact h.tr _ _ _ hy (h1 z hz)
   ·exact hl
theorem zgo (h : STO lt) : ∀ (l a : List α), AscB lt a → AscB lt (l.foldl (fun a x => insD lt x a) a) ∧ ∀ z, z ∈ l.foldl (fun a x => insD lt x a) a ↔ z ∈ a ∨ z ∈ l
 | [], a, ha => ⟨ha, by simp⟩
 | x :: l, a, ha => by
  obtain ⟨h1, h2⟩ := zgo h l (insD lt x a) (ziJ h x a ha)
  refine ⟨h1, fun z => ?_⟩
  rw [List.foldl_cons, h2, zgR h, List.mem_cons]
  constructor
  ·rintro ((e | e) | e)
   ·exact .inr (.inl e)
   ·exact .inl e
   ·exact .inr (.inr e)
  ·rintro (e | e | e)
   ·exact .inl (.inr e)
   ·exact .inl (.inl e)
   ·exact .inr e
theorem zcw (h : STO lt) (l : List α) : AscB lt (sortD lt l) := (zgo h l [] .nil).1
theorem zcd (h : STO lt) (l : List α) (z : α) : z ∈ sortD lt l ↔ z ∈ l := by
 rw [show z ∈ sortD lt l ↔ _ from (zgo h l [] .nil).2 z]; simp
theorem zje (h : STO lt) : ∀ (a b : List α), AscB lt a → AscB lt b → (∀ z, z ∈ a ↔ z ∈ b) → a = b
 | [], [], _, _, _ => rfl
 | [], y :: b, _, _, hm => by have := (hm y).2 (by simp); simp at this
 | x :: a, [], _, _, hm => by have := (hm x).1 (by simp); simp at this
 | x :: a, y :: b, ha, hb, hm => by
  obtain ⟨a1, a2⟩ := List.pairwise_cons.1 ha
  obtain ⟨b1, b2⟩ := List.pairwise_cons.1 hb
  have no : ∀ {u v : α}, lt u v = true → lt v u = true → False := fun p q => by
   have := h.tr _ _ _ p q
   rw [h.irr] at this; cases this
  obtain rfl : x = y := by
   rcases List.mem_cons.1 ((hm x).1 (by simp)) with e | e
   ·exact e
   rcases List.mem_cons.1 ((hm y).2 (by simp)) with f | f
   ·exact f.symm
   ·exact (no (a1 y f) (b1 x e)).elim
  have hne : ∀ {z : α} {l : List α}, (∀ u ∈ l, lt x u = true) → z ∈ l → z ≠ x := fun hl hz e => by
   subst e
   have := hl _ hz
   rw [h.irr] at this; cases this
  rw [zje h a b a2 b2 fun z => ?_]
  constructor
  ·intro hz
   rcases List.mem_cons.1 ((hm z).1 (List.mem_cons_of_mem _ hz)) with e | e
   ·exact absurd e (hne a1 hz)
   ·exact e
  ·intro hz
   rcases List.mem_cons.1 ((hm z).2 (List.mem_cons_of_mem _ hz)) with e | e
   ·exact absurd e (hne b1 hz)
   ·exact e
theorem zmX (h : STO lt) {l m : List α} (ha : AscB lt m) (hm : ∀ z, z ∈ m ↔ z ∈ l) : m = sortD lt l := zje h _ _ ha (zcw h l) fun z => by rw [hm, zcd h]
theorem zfP (l : List α) (x : α) : sortD lt (l ++ [x]) = insD lt x (sortD lt l) := by unfold sortD; rw [List.foldl_append]; rfl
theorem zjd (x : α) : ∀ l : List α, (insD lt x l).length ≤ l.length + 1
 | [] => by simp [insD]
 | y :: r => by
  unfold insD
  have := zjd x r
  split
  ·simp only [List.length_cons]; omega
  ·split <;> simp
theorem zcc (l : List α) : (sortD lt l).length ≤ l.length := by
 have : ∀ (l a : List α), (l.foldl (fun a x => insD lt x a) a).length ≤ a.length + l.length := by
  intro l
  induction l with
  | nil => simp
  | cons x l ih =>
   intro a
   have := ih (insD lt x a)
   have := zjd (lt := lt) x a
   simp only [List.foldl_cons, List.length_cons]; omega
 have := this l []
 unfold sortD
 simpa using this
theorem zdA (h : STO lt) (l : List α) : sortD lt l = [] ↔ l = [] := by
 constructor
 ·intro e
  cases l with
  | nil => rfl
  | cons x r => have := (zcd h (x :: r) x).2 (by simp); rw [e] at this; simp at this
 ·rintro rfl; rfl
theorem zkj {l : List α} (p : α → Bool) (h : AscB lt l) : AscB lt (l.filter p) := List.Pairwise.filter p h
end
def ltI (a b : Int) : Bool := decide (a < b)
def ltT (a b : List UInt8) : Bool := decide (a < b)
theorem stoI : STO ltI := ⟨fun a => by simp [ltI], fun a b c h1 h2 => by simp only [ltI, decide_eq_true_eq] at *; omega, fun a b h1 h2 => by simp only [ltI, decide_eq_false_iff_not] at *; omega⟩
theorem stoT : STO ltT := ⟨fun a => by simp only [ltT, decide_eq_false_iff_not]; exact List.lt_irrefl a, fun a b c h1 h2 => by simp only [ltT, decide_eq_true_eq] at *; exact List.lt_trans h1 h2, fun a b h1 h2 => by
 simp only [ltT, decide_eq_false_iff_not] at *
 exact List.le_antisymm h2 h1⟩
def sortI (l : List Int) : List Int := sortD ltI l
def sortT (l : List (List UInt8)) : List (List UInt8) := sortD ltT l
theorem zcV {α : Type} [DecidableEq α] [Inhabited α] {lt : α → α → Bool} (h : STO lt) (le : α → α → Bool) (hle : ∀ a b, le a b = !lt b a) (l : List α) : compact (l.mergeSort le) = sortD lt l := by
 have htr : ∀ a b c, le a b = true → le b c = true → le a c = true := fun a b c h1 h2 => by
  rw [hle, Bool.not_eq_true'] at *
  cases hca : lt c a with
  | false => rfl
  | true =>
   cases hcb : lt c b with
   | true => rw [hcb] at h2; cases h2
   | false =>
    cases hbc : lt b c with
    | true => have := h.tr _ _ _ hbc hca; rw [this] at h1; cases h1
    | false =>
     obtain rfl := h.tri _ _ hbc hcb
     rw [hca] at h1; cases h1
 have hto : ∀ a b, (le a b || le b a) = true := fun a b => by
  rw [hle, hle]
  cases hab : lt a b with
  | false => simp
  | true =>
   cases hba : lt b a with
   | false => rfl
   | true => have := h.tr _ _ _ hab hba; rw [h.irr] at this; cases this
 have hs : (l.mergeSort le).Pairwise fun a b => le a b = true := List.pairwise_mergeSort htr hto l
 have hm : ∀ z, z ∈ l.mergeSort le ↔ z ∈ l := fun z => (List.mergeSort_perm l le).mem_iff
 generalize l.mergeSort le = s at *
 have key : ∀ m, m ≤ s.length → AscB lt (compactUpTo s.toArray m) ∧ (∀ z, z ∈ compactUpTo s.toArray m ↔ z ∈ s.take m) := by
  intro m
  induction m with
  | zero => intro _; simp [compactUpTo, AscB]
  | succ m ih =>
   intro hmle
   obtain ⟨i1, i2⟩ := ih (by omega)
   have hlt : m < s.length := by omega
   rw [compactUpTo_succ]
   have hsm : s.toArray[m]! = s[m] := by simp [hlt]
   have htk : s.take (m + 1) = s.take m ++ [s[m]] := List.take_succ_eq_append_getElem hlt
   rw [htk, hsm]
   have hkp : keeps s.toArray m = true ↔ (m = 0 ∨ ∃ h : m - 1 < s.length, s[m] ≠ s[m - 1]) := by
    unfold keeps
    have e2 : s.toArray[m - 1]! = s[m - 1]'(by omega) := by simp [show m - 1 < s.length by omega]
    simp only [hsm, e2, decide_eq_true_eq, ne_eq]
    constructor
    ·rintro (e | e)
     ·exact .inl e
     ·exact .inr ⟨by omega, e⟩
    ·rintro (e | ⟨_, e⟩)
     ·exact .inl e
     ·exact .inr e
   have hle' : ∀ z ∈ s.take m, le z s[m] = true := fun z hz => by
    have hp := hs
    rw [← List.take_append_drop m s, List.pairwise_append] at hp
    exact hp.2.2 z hz s[m] (by rw [List.drop_eq_getElem_cons hlt]; exact List.mem_cons_self)
   by_cases hk : keeps s.toArray m = true
   ·rw [if_pos hk]
    refine ⟨?_, fun z => by rw [List.mem_append, List.mem_append, i2]⟩
    unfold AscB
    rw [List.pairwise_append]
    refine ⟨i1, by simp, fun a ha b hb => ?_⟩
    rw [List.mem_singleton] at hb
    subst hb
    have ha2 := (i2 a).1 ha
    have hane : a ≠ s[m] := by
     rintro rfl
     rcases hkp.1 hk with e | ⟨hm1, e⟩
     ·subst e; simp at ha2
     ·-- the one before m is at most s[m], and at least a
      apply e
      have hm0 : m ≠ 0 := by rintro rfl; simp at ha2
      have hp : le (s[m - 1]'hm1) s[m] = true := hle' _ (by
       rw [List.mem_take_iff_getElem]
       exact ⟨m - 1, by omega, rfl⟩)
      obtain ⟨i, hi, hie⟩ := List.mem_take_iff_getElem.1 ha2
      have hq : le s[m] (s[m - 1]'hm1) = true ∨ i = m - 1 := by
       by_cases hi1 : i = m - 1
       ·exact .inr hi1
       ·left
        have hi2 : i < m - 1 := by omega
        have := (List.pairwise_iff_getElem.1 hs) i (m - 1) (by omega) hm1 hi2
        rwa [hie] at this
      rcases hq with hq | hq
      ·rw [hle, Bool.not_eq_true'] at hp hq
       exact h.tri _ _ hp hq
      ·subst hq; exact hie.symm
    have := hle' a ha2
    rw [hle, Bool.not_eq_true'] at this
    cases hal : lt a s[m] with
    | true => rfl
    | false => exact absurd (h.tri _ _ hal this) hane
   ·rw [if_neg hk]
    rw [List.append_nil]
    refine ⟨i1, fun z => ?_⟩
    rw [i2, List.mem_append, List.mem_singleton]
    constructor
    ·exact .inl
    ·rintro (e | rfl)
     ·exact e
     ·have hm0 : m ≠ 0 := fun e => hk (hkp.2 (.inl e))
      have hm1 : m - 1 < s.length := by omega
      have e : s[m] = s[m - 1] := Classical.byContradiction fun hne => hk (hkp.2 (.inr ⟨hm1, hne⟩))
      rw [e]
      rw [List.mem_take_iff_getElem]
      exact ⟨m - 1, by omega, rfl⟩
 unfold compact
 obtain ⟨k1, k2⟩ := key s.length (Nat.le_refl _)
 exact zmX h k1 fun z => by rw [k2, List.take_length, hm]
theorem zhJ (l : List Int) : compact (l.mergeSort fun x y => decide (x ≤ y)) = sortI l := zcV stoI _ (fun a b => by simp only [ltI]; rw [← decide_not]; exact decide_eq_decide.2 (by omega)) l
theorem zhE (l : List (List UInt8)) : compact (l.mergeSort fun x y => decide (x ≤ y)) = sortT l := zcV stoT _ (fun a b => by simp only [ltT]; rw [← decide_not]; exact decide_eq_decide.2 Iff.rfl) l
def flagCh (c : UInt8) : Bool := (decide (97 ≤ c.toNat) && decide (c.toNat ≤ 122)) || (decide (48 ≤ c.toNat) && decide (c.toNat ≤ 57)) || decide (c ∈ ([36, 92, 45, 95, 46] : List UInt8))
def flagB (s : List UInt8) : Bool := s.all flagCh && decide (1 ≤ s.length ∧ s.length ≤ 30)
def flagsB (l : List (List UInt8)) : Bool := l.all flagB
def scCh (c : UInt8) : Bool := decide (32 ≤ c.toNat) && decide (c.toNat ≠ 127)
def scB (s : List UInt8) : Bool := s.all scCh && decide (1 ≤ s.length ∧ s.length ≤ 100)
def thereB (bs : List Bx) (ids : List Int) : Bool := ids.all fun i => bs.any fun b => decide (b.id = i)
end Go.Cs
