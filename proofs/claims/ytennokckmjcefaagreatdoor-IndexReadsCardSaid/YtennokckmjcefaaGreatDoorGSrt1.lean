/- Helper lemmas; no conditions of their own. -/
import Derived.Shelf.GgSortFunc.InsertionK
import Derived.Shelf.SlSortCmp.NoneTotal
import Derived.Test.YtennokckmjcefaaGreatDoorGNd9
set_option linter.unusedVariables false
set_option maxRecDepth 100000
namespace Go.Vc
open Go Go.Pw Go.Sort Go.Proofs
section
variable {α : Type} [Inhabited α] {enc : α → List Value} {w : World} {g q k : Nat} {os : Array Obj} {e : TypeId}
theorem zgQ (hk : ∀ x, (enc x).length = k) (l : List α) : flatK enc k l.toArray = (l.flatMap enc).toArray := by
 have hlen : (l.flatMap enc).length = l.length * k := flatK_len enc k hk l
 apply Array.ext
 ·rw [size_flatK]; simp only [List.size_toArray]; exact hlen.symm
 intro t h1 h2
 have ht : t < l.length * k := by rw [size_flatK] at h1; simpa using h1
 have hk0 : 0 < k := by
  rcases ybj k with h | h
  ·subst h; simp at ht
  exact h
 have hi : t / k < l.length := Nat.div_lt_of_lt_mul (by rwa [ycc] at ht)
 have hm : t % k < k := Nat.mod_lt _ hk0
 have h3 := get_flatK enc k l.toArray t (by simpa using ht)
 rw [getElem!_pos _ t h1] at h3
 rw [h3]
 have hd := flatK_drop enc k hk l (t / k)
 have e1 : (l.flatMap enc)[t]? = ((l.drop (t / k)).flatMap enc)[t % k]? := by
  rw [← hd, List.getElem?_drop, ycc, Nat.div_add_mod]
 rw [yat hi, yao, List.getElem?_append_left (by rw [hk]; exact hm)] at e1
 have e2 : l.toArray[t / k]! = l[t / k] := by rw [getElem!_pos _ _ (by simpa using hi)]; simp
 rw [e2]
 have e3 : (l.flatMap enc)[t]? = some ((l.flatMap enc).toArray[t]) := by
  rw [List.getElem?_eq_getElem (by simpa using h2)]; simp
 rw [e3] at e1
 have e4 : (enc l[t / k])[t % k]? = some (enc l[t / k])[t % k]! := by
  rw [List.getElem?_eq_getElem (by rw [hk]; exact hm), getElem!_pos _ _ (by rw [hk]; exact hm)]
 rw [e4] at e1
 injection e1 with e1
 exact e1.symm
theorem zmr {l : List α} {cells : List Value} (hk : ∀ x, (enc x).length = k) (h : VarK w g e cells) (ht : cells.take (l.length * k) = l.flatMap enc) : HoldsK enc k w g 0 l.toArray := by
 unfold HoldsK
 rw [zgQ hk]
 exact zfJ (enc := id) h (by rw [flatK_len enc k hk, ht, ybY])
theorem zpP {B n cap : Nat} {xs : List Value} (hk : ∀ x, (enc x).length = k) (ho : w.ownsRow B e k (.slice (some ⟨g, 0, none⟩) n cap) n xs) (l : List α) (hl : l.length = n) :
  (sortWorldK enc k w g 0 q l.toArray os).ownsRow B e k (.slice (some ⟨g, 0, none⟩) n cap) n (l.flatMap enc) := by
 unfold sortWorldK putRowK
 rw [zgQ hk]
 have hF : (l.flatMap enc).length = n * k := by rw [flatK_len enc k hk, hl]
 rcases ho.2 with ⟨h, _⟩ | ⟨g', cap', cur, h1, h2, h3, h4, h5, h6, h7⟩
 ·cases h
 injection h1 with h1 _ hc
 injection h1 with h1
 injection h1 with h1
 subst h1; subst hc
 refine ⟨hF, .inr ⟨g, cap, _, rfl, h2, heap_put _ h3, OM, h5, by simp [putCells, h6], ?_⟩⟩
 have := zky (enc := id) cur (l.flatMap enc) (by rw [hF, h6]; exact yaV _ h4)
 rw [hF, ybY] at this
 exact this
theorem zmb (d : Array α) : Kp w (sortWorldK enc k w g 0 q d os) (one_ g) := zfO (enc := id) _
end
end Go.Vc
namespace Go.Proofs.YtennokckmjcefaaGreatDoor
open Go.Shelf Go.RowKit Go.Pw Go.Vc Go.Cs Go.Lib Go.Cd Go.Mg Go.Sort
instance : Inhabited Trm := ⟨⟨0, [], []⟩⟩
theorem zkv (x y : Trm) : ltOf cmpT x y = ltK x.key y.key := by
 have h := zft x y
 unfold ltOf
 cases hk : ltK x.key y.key with
 | true => exact decide_eq_true (h.2 hk)
 | false => exact decide_eq_false fun e => by rw [h.1 e] at hk; cases hk
theorem swoT : SWO (ltOf cmpT) where
 irrefl x := by rw [zkv]; exact stoK.irr _
 trans x y z h1 h2 := by rw [zkv] at *; exact stoK.tr _ _ _ h1 h2
 ntrans x y z h1 h2 := by
  rw [zkv] at *
  cases h : ltK x.key z.key with
  | false => rfl
  | true =>
   cases h3 : ltK y.key x.key with
   | true =>
    have := stoK.tr _ _ _ h3 h
    rw [h2] at this; cases this
   | false =>
    have e := stoK.tri _ _ h1 h3
    rw [e] at h; rw [h2] at h; cases h
theorem zms (blk off size : Nat) (w : World) : CmpLays Tryz.prog 144 #[] tmC 3 cmpT blk off size w := fun m os dk hs x y => zmE x y
section
variable {w : World} {B : Nat}
theorem zuw {v : Value} (l : List Trm) (ho : OwnR 141 tmC 3 w B v l) (hl : l.length ≤ 17592186044416) :
  Calls Tryz.prog 143 #[v, .func (.func 144) #[] #[]] w fun e w' => e = .returned (.tuple #[]) ∧ ∃ l', l'.Perm l ∧ l'.Pairwise (fun a b => ltK b.key a.key = false) ∧ OwnR 141 tmC 3 w' B v l' ∧ Kp w w' (own_ v) := by
 rcases own_blockK ho with ⟨rfl, h0⟩ | ⟨g, cap, cells, rfl, hBg, hv, hnc, hcm, hcl, htk⟩
 ·obtain rfl : l = [] := yan h0
  refine (AnyF.slices_SortFunc_none zrQ none 0 _ w).mono ?_
  rintro e w' ⟨rfl, rfl⟩
  exact ⟨rfl, [], .refl _, .nil, ho, Yb _ _⟩
 refine (AnyQ.slices_SortFunc zrQ 3 Tryz.isAgg141 Tryz.sizeOf141 tmC lenTm (fun x v hv => by simp [tmC] at hv; rcases hv with rfl | rfl | rfl <;> rfl) cmpT swoT 144 #[] g 0 cap l.toArray w (fun _ _ => rfl) (zms _ _ _ _) (zmr lenTm hv htk) hv.lt (by simp; omega)).mono ?_
 rintro e w' ⟨rfl, d', n, os, ⟨hp1, _, hp3⟩, hs, rfl⟩
 have hsz : d'.size = l.length := by simpa using hp1
 have e1 : d'.extract 0 l.toArray.size = d' := by rw [← hp1]; exact Array.extract_size
 have e2 : l.toArray.extract 0 l.toArray.size = l.toArray := Array.extract_size
 rw [e1, e2] at hp3
 have hd : d'.toList.toArray = d' := by simp
 refine ⟨rfl, d'.toList, by simpa using hp3, ?_, ?_, ?_⟩
 ·rw [yaH]
  intro i j hi hj hij
  have hi' : i < d'.size := by simpa using hi
  have hj' : j < d'.size := by simpa using hj
  have h := hs i j (yal _) hij (by rw [List.size_toArray]; omega)
  rw [getElem!_pos d' j hj', getElem!_pos d' i hi', zkv] at h
  exact h
 ·have h := zpP (q := n) (os := os) lenTm ho d'.toList (by simpa using hsz)
  rw [hd] at h
  unfold OwnR
  rw [show d'.toList.length = l.length by simpa using hsz]
  exact h
 exact (zmb d').mono fun q _ hq => by have hq : q = g := hq; rw [hq]; rfl
end
end Go.Proofs.YtennokckmjcefaaGreatDoor
namespace Go.Proofs.YtennokckmjcefaaGreatDoor
open Go.Shelf Go.RowKit Go.Pw Go.Vc Go.Cs Go.Lib Go.Cd Go.Mg
section
variable {κ : Type} [DecidableEq κ] {k : κ} {x : Value}
theorem put_keys : ∀ m : GM κ, (m.put k x).map (·.1) = if k ∈ m.map (·.1) then m.map (·.1) else m.map (·.1) ++ [k]
 | [] => by simp [GM.put]
 | (s, v) :: r => by
  unfold GM.put
  by_cases h : k = s
  ·subst h; simp
  rw [if_neg h, yas, put_keys r, yas]
  by_cases h2 : k ∈ r.map (·.1)
  ·rw [if_pos h2, if_pos (yai _ h2)]
  rw [if_neg h2, if_neg (fun e => by rcases yah.1 e with e | e; exact h e; exact h2 e)]; rfl
theorem put_nodup {m : GM κ} (h : (m.map (·.1)).Nodup) : ((m.put k x).map (·.1)).Nodup := by
 rw [put_keys]
 split
 ·exact h
 rename_i hn
 exact ybr.2 ⟨h, by simp, fun a ha b hb => by rw [yac.1 hb]; exact fun e => hn (e ▸ ha)⟩
theorem zka (m : GM κ) : (m.put k x).length ≤ m.length + 1 := by
 have := congrArg List.length (put_keys (k := k) (x := x) m)
 rw [yaf] at this
 rw [this]
 split <;> simp
theorem get_mem : ∀ {m : GM κ} {v : Value}, m.get k = some v → (k, v) ∈ m
 | (s, u) :: r, v, h => by
  unfold GM.get at h
  split at h
  ·rename_i e; injection h with h; subst h; subst e; exact yae
  exact yai _ (get_mem h)
theorem zjL : ∀ {m : GM κ} {v : Value}, (m.map (·.1)).Nodup → (k, v) ∈ m → m.get k = some v
 | (s, u) :: r, v, hn, h => by
  rw [yas, ybV] at hn
  unfold GM.get
  rcases yah.1 h with h | h
  ·injection h with h1 h2; subst h1; subst h2; rw [if_pos rfl]
  rw [if_neg (fun e => hn.1 (by rw [← e]; exact yay.2 ⟨_, h, rfl⟩))]
  exact zjL hn.2 h
theorem zfg : ∀ {m : GM κ}, m.get k = none ↔ k ∉ m.map (·.1)
 | [] => by simp [GM.get]
 | (s, u) :: r => by
  unfold GM.get
  split
  ·rename_i e; subst e; simp
  rename_i e
  rw [zfg, yas, yah, not_or]
  exact ⟨fun h => ⟨e, h⟩, fun h => h.2⟩
end
abbrev TM := Ky → Option (Nat × GM Int)
def valM (x : Nat × GM Int) : Value := .map (some x.1)
def rowM (M : TM) (k : Ky) (d : Int) : Option Value := (M k).bind fun x => x.2.get d
def upM (M : TM) (k : Ky) (x : Nat × GM Int) : TM := fun k' => if k' = k then some x else M k'
theorem zeE {κ : Type} {enc : κ → Value} {w : World} {B s n mb : Nat} {E : TypeId} {v : Value} {xs : List Value} {m : GM κ} (hm : GMapO enc w mb m) (h : w.ownsRow B E s v n xs) : ¬ own_ v mb := fun e => by
 obtain ⟨cs, z, hh, _⟩ := zat h e
 obtain ⟨es, cl, h1, _⟩ := hm
 rw [h1] at hh; cases hh
structure TmAt (w : World) (B tb : Nat) (m : GM Ky) (M : TM) (f : Ky → Int → List Int) (N : Nat) : Prop where
 sz : B ≤ w.heap.size
 tl : tb < B
 mp : GMapO encKy w tb m
 nd : (m.map (·.1)).Nodup
 gt : ∀ k, m.get k = (M k).map valM
 ln : m.length ≤ N
 ob : ∀ k x, M k = some x → B ≤ x.1 ∧ GMapO (Value.int .i64) w x.1 x.2 ∧ (x.2.map (·.1)).Nodup ∧ x.2.length ≤ N
 ne : ∀ k k' x x', M k = some x → M k' = some x' → k ≠ k' → x.1 ≠ x'.1
 rw : ∀ k d v, rowM M k d = some v → OwnI w B v (f k d) ∧ f k d ≠ []
 rn : ∀ k d, rowM M k d = none → f k d = []
 ap : ∀ k d k' d' v v', rowM M k d = some v → rowM M k' d' = some v' → (k ≠ k' ∨ d ≠ d') → Apart v v'
 fl : ∀ k d, (f k d).length ≤ N
theorem TmAt.keep {w w' : World} {c : Nat → Prop} {B tb N : Nat} {m : GM Ky} {M : TM} {f : Ky → Int → List Int} (h : TmAt w B tb m M f N) (k : Kp w w' c) (h1 : ¬ c tb)
  (h2 : ∀ q, q < w.heap.size → B ≤ q → c q → (∀ es cl, w.heap[q]? ≠ some (.map es cl)) ∧ ∀ cs z, w.heap[q]? ≠ some (.cells cs 3 z)) : TmAt w' B tb m M f N where
 sz := yaw h.sz k.size
 tl := h.tl
 mp := h.mp.keep k h1
 nd := h.nd
 gt := h.gt
 ln := h.ln
 ob key x hx := by
  obtain ⟨o1, o2, o3, o4⟩ := h.ob key x hx
  refine ⟨o1, o2.keep k fun e => ?_, o3, o4⟩
  have hh := (h2 _ o2.g.lt o1 e).1
  obtain ⟨es, cl, hm, _⟩ := o2
  exact hh _ _ hm
 ne := h.ne
 rw key d v hv := by
  obtain ⟨r1, r2⟩ := h.rw key d v hv
  refine ⟨own_keep r1 k fun q hq e => ?_, r2⟩
  obtain ⟨cs, z, hh, hB, hlt⟩ := zat r1 hq
  exact (h2 q hlt hB e).2 _ _ hh
 rn := h.rn
 ap := h.ap
 fl := h.fl
theorem TmAt.keep0 {w w' : World} {B tb N : Nat} {m : GM Ky} {M : TM} {f : Ky → Int → List Int} (h : TmAt w B tb m M f N) (k : Kp w w' n_) : TmAt w' B tb m M f N := h.keep k id fun q _ _ e => e.elim
theorem TmAt.keepB {w w' : World} {c : Nat → Prop} {B tb N : Nat} {m : GM Ky} {M : TM} {f : Ky → Int → List Int} (h : TmAt w B tb m M f N) (k : Kp w w' c) (hc : ∀ q, c q → q < tb) : TmAt w' B tb m M f N :=
 h.keep k (fun e => by have := hc _ e; omega) fun q _ hB e => by have := hc q e; have := h.tl; omega
theorem TmAt.init (w : World) : TmAt (w.alloc (.map #[] 0)) (w.heap.size + 1) w.heap.size [] (fun _ => none) (fun _ _ => []) 0 where
 sz := by simp
 tl := Nat.lt_succ_self _
 mp := GMapO.new w
 nd := .nil
 gt _ := rfl
 ln := yag _
 ob _ _ h := by cases h
 ne _ _ _ _ h := by cases h
 rw _ _ _ h := by cases h
 rn _ _ _ := rfl
 ap _ _ _ _ _ _ h := by cases h
 fl _ _ := yag _
theorem TmAt.mono {w : World} {B tb N N' : Nat} {m : GM Ky} {M : TM} {f : Ky → Int → List Int} (h : TmAt w B tb m M f N) (hN : N ≤ N') : TmAt w B tb m M f N' :=
 { h with ln := yaw h.ln hN, ob := fun k x hx => let ⟨a, b, c, d⟩ := h.ob k x hx; ⟨a, b, c, yaw d hN⟩, fl := fun k d => yaw (h.fl k d) hN }
theorem zib {M : TM} {k : Ky} {ob : Nat} (h : M k = none) : rowM (upM M k (ob, [])) = rowM M := by
 funext k' d
 unfold rowM upM
 split
 ·rename_i e; subst e; rw [h]; rfl
 rfl
theorem TmAt.new {w w1 w2 : World} {B tb N : Nat} {m : GM Ky} {M : TM} {f : Ky → Int → List Int} (h : TmAt w B tb m M f N) {k : Ky} (hk : M k = none) {ob : Nat} (hob : w.heap.size ≤ ob) (k1 : Kp w w1 n_) (hn : GMapO (Value.int .i64) w1 ob ([] : GM Int))
  (hm : GMapO encKy w2 tb (m.put k (.map (some ob)))) (k2 : Kp w1 w2 (one_ tb)) : TmAt w2 B tb (m.put k (.map (some ob))) (upM M k (ob, [])) f (N + 1) := by
 have hB := h.sz
 have htl := h.tl
 have h1 := h.keep0 k1
 have hobs : ∀ k' x, M k' = some x → x.1 < ob := fun k' x hx => by have := (h.ob k' x hx).2.1.g.lt; omega
 refine ⟨yaw h1.sz k2.size, h.tl, hm, put_nodup h.nd, fun k' => ?_, ?_, fun k' x hx => ?_, fun k' k'' x x' hx hx' hne => ?_, fun k' d v hv => ?_, fun k' d hv => ?_, fun k' d k'' d' v v' hv hv' hne => ?_, fun k' d => Nat.le_succ_of_le (h.fl k' d)⟩
 ·rw [GM.get_put]
  unfold upM
  split
  ·rfl
  exact h.gt k'
 ·have := zka (k := k) (x := .map (some ob)) m; have := h.ln; omega
 ·unfold upM at hx
  split at hx
  ·injection hx with hx
   subst hx
   exact ⟨DO, hn.keep k2 (fun e => by have e : ob = tb := e; omega), .nil, yal _⟩
  obtain ⟨o1, o2, o3, o4⟩ := h1.ob k' x hx
  exact ⟨o1, o2.keep k2 (fun e => by have e : x.1 = tb := e; omega), o3, OM⟩
 ·unfold upM at hx hx'
  split at hx
  ·injection hx with hx
   subst hx
   rw [if_neg (by rename_i e; exact fun e2 => hne (e.trans e2.symm))] at hx'
   have := hobs _ _ hx'
   dsimp only; omega
  split at hx'
  ·injection hx' with hx'
   subst hx'
   have := hobs _ _ hx
   dsimp only; omega
  exact h.ne _ _ _ _ hx hx' hne
 ·rw [zib hk] at hv
  obtain ⟨r1, r2⟩ := h1.rw k' d v hv
  exact ⟨own_keep r1 k2 fun q hq e => by
   have e : q = tb := e
   obtain ⟨_, _, _, hBq, _⟩ := zat r1 hq
   omega, r2⟩
 ·rw [zib hk] at hv; exact h.rn k' d hv
 rw [zib hk] at hv hv'; exact h.ap _ _ _ _ _ _ hv hv' hne
theorem zhh {M : TM} {k : Ky} {ob : Nat} {g : GM Int} {d : Int} {v : Value} (h : M k = some (ob, g)) (k' : Ky) (d' : Int) : rowM (upM M k (ob, g.put d v)) k' d' = if k' = k ∧ d' = d then some v else rowM M k' d' := by
 unfold rowM upM
 by_cases e : k' = k
 ·subst e
  rw [if_pos rfl, h]
  show (g.put d v).get d' = _
  rw [GM.get_put]
  by_cases e2 : d' = d
  ·rw [if_pos e2, if_pos ⟨rfl, e2⟩]
  rw [if_neg e2, if_neg (fun h => e2 h.2)]; rfl
 rw [if_neg e, if_neg (fun h => e h.1)]
theorem TmAt.row {w : World} {B tb N : Nat} {m : GM Ky} {M : TM} {f : Ky → Int → List Int} (h : TmAt w B tb m M f N) {k : Ky} {ob : Nat} {g : GM Int} (hk : M k = some (ob, g)) (d : Int) : OwnI w B ((g.get d).getD (.slice none 0 0)) (f k d) := by
 have e : rowM M k d = g.get d := by unfold rowM; rw [hk]; rfl
 cases hg : g.get d with
 | none => rw [h.rn k d (e.trans hg)]; exact World.ownsRow_nil _ _ _ _
 | some v => exact (h.rw k d v (e.trans hg)).1
theorem TmAt.put {w w1 w2 : World} {B tb N : Nat} {m : GM Ky} {M : TM} {f : Ky → Int → List Int} (h : TmAt w B tb m M f N) {k : Ky} {ob : Nat} {g : GM Int} (hk : M k = some (ob, g)) {d x : Int} {v' : Value}
  (ho : OwnI w1 B v' (f k d ++ [x])) (k1 : Kp w w1 (own_ ((g.get d).getD (.slice none 0 0)))) {n0 : Nat} (hb : v'.ownBlock = ((g.get d).getD (.slice none 0 0)).ownBlock ∨ v'.ownBlock = some n0) (hn0 : w.heap.size ≤ n0)
  (hm : GMapO (Value.int .i64) w2 ob (g.put d v')) (k2 : Kp w1 w2 (one_ ob)) : TmAt w2 B tb m (upM M k (ob, g.put d v')) (updF f k d x) (N + 1) := by
 have hrow := h.row hk d
 have hobk := h.ob k _ hk
 dsimp only at hobk
 have hB := h.sz
 have htl := h.tl
 have e : rowM M k d = g.get d := by unfold rowM; rw [hk]; rfl
 have cells1 : ∀ {u : Value} {l : List Int} {q : Nat}, OwnI w1 B u l → u.ownBlock = some q → q ≠ ob := fun hu hq e => by
  obtain ⟨cs, z, hh, _⟩ := zat hu hq
  have hm1 : GMapO (Value.int .i64) w1 ob g := hobk.2.1.keep k1 (zeE hobk.2.1 hrow)
  obtain ⟨es, cl, h1, _⟩ := hm1
  rw [e, h1] at hh; cases hh
 have old : ∀ k' d' v, rowM M k' d' = some v → ¬ (k' = k ∧ d' = d) → OwnI w1 B v (f k' d') ∧ Apart v ((g.get d).getD (.slice none 0 0)) := fun k' d' v hv hne => by
  have ap : Apart v ((g.get d).getD (.slice none 0 0)) := by
   cases hg : g.get d with
   | none => exact fun _ _ h => by cases h
   | some u => exact h.ap k' d' k d v u hv (e.trans hg) (by
     by_cases h1 : k' = k
     ·exact .inr fun h2 => hne ⟨h1, h2⟩
     exact .inl h1)
  exact ⟨zpp (h.rw k' d' v hv).1 k1 ap, ap⟩
 refine ⟨yaw h.sz (yaw k1.size k2.size), h.tl, ?_, h.nd, fun k' => ?_, Nat.le_succ_of_le h.ln, fun k' y hy => ?_, fun k' k'' y y' hy hy' hne => ?_, fun k' d' v hv => ?_, fun k' d' hv => ?_, fun k' d' k'' d'' v v2 hv hv2 hne => ?_, fun k' d' => ?_⟩
 ·exact (h.mp.keep k1 (zeE h.mp hrow)).keep k2 fun e => by have e : tb = ob := e; omega
 ·rw [h.gt k']
  unfold upM
  split
  ·rename_i e; subst e; rw [hk]; rfl
  rfl
 ·unfold upM at hy
  split at hy
  ·injection hy with hy
   subst hy
   exact ⟨hobk.1, hm, put_nodup hobk.2.2.1, by have := zka (k := d) (x := v') g; have := hobk.2.2.2; dsimp only; omega⟩
  rename_i hne
  obtain ⟨o1, o2, o3, o4⟩ := h.ob k' y hy
  exact ⟨o1, (o2.keep k1 (zeE o2 hrow)).keep k2 fun e => h.ne _ _ _ _ hy hk hne e, o3, OM⟩
 ·unfold upM at hy hy'
  split at hy
  ·injection hy with hy
   subst hy
   rw [if_neg (by rename_i e; exact fun e2 => hne (e.trans e2.symm))] at hy'
   rename_i e; exact h.ne k k'' (ob, g) y' hk hy' (fun e2 => hne (e.trans e2))
  split at hy'
  ·injection hy' with hy'
   subst hy'
   rename_i e1 e2
   exact h.ne k' k y (ob, g) hy hk e1
  exact h.ne _ _ _ _ hy hy' hne
 ·rw [zhh hk] at hv
  unfold updF
  split at hv
  ·rename_i hc
   injection hv with hv
   subst hv
   rw [if_pos hc]
   exact ⟨own_keep ho k2 fun q hq e => cells1 ho hq e, by simp⟩
  rename_i hc
  rw [if_neg hc]
  have h1 := (old k' d' v hv hc).1
  exact ⟨own_keep h1 k2 fun q hq e => cells1 h1 hq e, (h.rw k' d' v hv).2⟩
 ·rw [zhh hk] at hv
  split at hv
  ·cases hv
  rename_i hc
  unfold updF
  rw [if_neg hc]; exact h.rn k' d' hv
 ·rw [zhh hk] at hv hv2
  have app : ∀ {k' d' u}, rowM M k' d' = some u → ¬ (k' = k ∧ d' = d) → Apart v' u := fun {k' d' u} hu hc q h1 h2 => by
   have h3 := (old k' d' u hu hc).2
   rcases hb with hb | hb
   ·exact h3 q h2 (hb ▸ h1)
   obtain ⟨_, _, _, _, hlt⟩ := zat (h.rw k' d' u hu).1 h2
   rw [h1] at hb
   injection hb with hb
   omega
  split at hv
  ·rename_i hc
   injection hv with hv
   subst hv
   split at hv2
   ·rename_i hc2
    exfalso
    rcases hne with h2 | h2
    ·exact h2 (hc.1.trans hc2.1.symm)
    exact h2 (hc.2.trans hc2.2.symm)
   rename_i hc2; exact app hv2 hc2
  rename_i hc
  split at hv2
  ·injection hv2 with hv2
   subst hv2
   exact fun q h1 h2 => app hv hc q h2 h1
  exact h.ap _ _ _ _ _ _ hv hv2 hne
 unfold updF
 split
 ·rename_i hc
  obtain ⟨rfl, rfl⟩ := hc
  have := h.fl k' d'
  rw [yaa]; simp; omega
 exact Nat.le_succ_of_le (h.fl k' d')
end Go.Proofs.YtennokckmjcefaaGreatDoor
namespace Go.Pw
open Go
set_option linter.unusedSectionVars false
section
variable {P : Program} {ops : Array Oper} {S : World → Prop} {hs : Option Tmp → Bool}
variable {m : Array Nat} {a z : Nat}
theorem zrp {i j : Nat} {K : Act → World → Prop} {c : Act} {w : World} (hw0 : S w) (hsx : ∀ p, ops[j]? = some p → NoSel p) (hsy : ∀ p, ops[i]? = some p → NoSel p) (hc : ∀ p o, ops[j]? = some p → ops[i]? = some o → commH P hs ops p o = true)
  (h : TIh P S hs ops j (TIh P S hs ops i K) c w) : TIh P S hs ops i (TIh P S hs ops j K) c w := by
 unfold TIh at h ⊢
 cases hi : ops[i]? with
 | none =>
  simp only [hi] at h ⊢; exact h
 | some o =>
  cases hj : ops[j]? with
  | none => simp only [hi, hj] at h ⊢; exact h
  | some p =>
   simp only [hi, hj] at h ⊢
   exact swapH hw0 (hsx p hj) (hsy o hi) (hc p o hj hi) h
end
end Go.Pw
namespace Go.Vc
open Go Go.Pw
def outK {ι : Type} (dl : DL) (slots : ι → List (Nat × Value)) (I : ι → World → Prop) : Exit → Fr → World → Prop
 | .normal, g, w => dsK dl g (Ret (∃ j, Agree g (slots j) ∧ I j w))
 | _, _, _ => False
theorem Draw.cut {P : Program} {n : Nat} {K : Exit → Fr → World → Prop} {id : Nat} {ops : Array Oper} {t : List It} {fg : Nat → Value} {dl : DL} {w : World} {ι : Type} (slots : ι → List (Nat × Value)) (I : ι → World → Prop)
  (h : Draw P n (outK dl slots I) id ops [] ⟨fg, dl⟩ w) (k : ∀ i g w, I i w → Sat P n K .normal t (setL (slots i) ⟨g, dl⟩) w) : Draw P n K id ops t ⟨fg, dl⟩ w :=
 ⟨fun hm hf => zfe (h.h hm hf) fun e a' w' he => by
  obtain ⟨g', hg', rfl, hk⟩ := he
  have hk : outK dl slots I e g' w' := hk
  cases e with
  | normal =>
   obtain ⟨hd, hk⟩ := zrm hk
   obtain ⟨j, h1, h2⟩ := Ret.h hk
   have := (k j g'.g w' h2).h
   rw [zrv hd, setL_of h1] at this
   exact ⟨g', hg', rfl, this hg'⟩
  | _ => exact hk.elim⟩
end Go.Vc
namespace Go.Pw
open Go
set_option linter.unusedSectionVars false
section
variable {P : Program} {ops : Array Oper} {S : World → Prop} {hs : Option Tmp → Bool} {m : Array Nat}
def need (m : Array Nat) (i j : Nat) : Bool := (m.getD i 0).testBit j
structure OkU (P : Program) (hs : Option Tmp → Bool) (ops : Array Oper) (m : Array Nat) : Prop where
 sel : ∀ (i : Nat) (o : Oper), ops[i]? = some o → NoSel o
 back : ∀ (i : Nat) (o : Oper), ops[i]? = some o → ∀ e ∈ o.after, Region.binds .any e = true → e.on < i
 dep : ∀ (i : Nat) (o : Oper), ops[i]? = some o → ∀ j, j < i → need m i j = true → ∃ e ∈ o.after, Region.binds .any e = true ∧ (e.on = j ∨ (j < e.on ∧ need m e.on j = true))
 low : ∀ i j, i < ops.size → i ≤ j → need m i j = false
 comm : ∀ (i : Nat) (o : Oper), ops[i]? = some o → ∀ (j : Nat) (p : Oper), ops[j]? = some p → j ≠ i → need m i j = false → need m j i = false → (other P hs ops i = false ∨ other P hs ops j = false) → commH P hs ops p o = true
 trans : ∀ i j k, i < ops.size → need m i j = true → need m j k = true → need m i k = true
theorem zjC {listed : Array Bool} (ok : OkU P hs ops m) (hcl : zdw ops listed) : ∀ (n i : Nat) (o : Oper), i ≤ n → ops[i]? = some o →
  (∀ e ∈ o.after, Region.binds .any e = true → listed.getD e.on false = true) → ∀ j, j < i → need m i j = true → listed.getD j false = true := by
 intro n
 induction n with
 | zero => intro i o hi _ _ j hj; omega
 | succ n ih =>
  intro i o hi ho hdeps j hj hm
  obtain ⟨e, he, hb, hor⟩ := ok.dep i o ho j hj hm
  have hlt := ok.back i o ho e he hb
  have hl := hdeps e he hb
  rcases hor with rfl | hor
  ·exact hl
  obtain ⟨o', ho'⟩ : ∃ o', ops[e.on]? = some o' := by
   obtain ⟨hi', _⟩ := Array.getElem?_eq_some_iff.1 ho
   exact ⟨ops[e.on], Array.getElem?_eq_getElem OM⟩
  exact ih e.on o' OM ho' (hcl e.on o' ho' hl) j hor.1 hor.2
theorem zhE {Q : Act → World → Prop} (ok : OkU P hs ops m) {i : Nat} {o : Oper} (ho : ops[i]? = some o) (hio : other P hs ops i = false) : ∀ (pre post : List Nat),
  (∀ j ∈ pre, j ≠ i ∧ need m i j = false ∧ need m j i = false) → ∀ (a : Act) (w : World), S w → wpIh P S hs ops Q (pre ++ i :: post) a w → TIh P S hs ops i (wpIh P S hs ops Q (pre ++ post)) a w
 | [], post, _, a, w, hw0, h => h
 | j :: pre, post, hp, a, w, hw0, h => by
  have ih := zhE (Q := Q) ok ho hio pre post (fun k hk => hp k (yai _ hk))
  have h' : TIh P S hs ops j (TIh P S hs ops i (wpIh P S hs ops Q (pre ++ post))) a w := zeu hw0 (fun a w hS => ih a w hS) h
  show TIh P S hs ops i (TIh P S hs ops j (wpIh P S hs ops Q (pre ++ post))) a w
  obtain ⟨hj, hm1, hm2⟩ := hp j yae
  exact zrp hw0 (fun p hp => ok.sel j p hp) (fun p hp => ok.sel i p hp) (fun p o' hp ho' => ok.comm i o' ho' j p hp hj hm1 hm2 (.inl hio)) h'
def wpTr (P : Program) (S : World → Prop) (hs : Option Tmp → Bool) (ops : Array Oper) (m : Array Nat) (Q : Act → World → Prop) : Nat → List Nat → List Nat → Act → World → Prop
 | 0, _, fls => wpIh P S hs ops Q fls
 | k + 1, rem, fls => fun a w => ∀ i, (i ∈ rem ∧ (rem.all fun j => !need m i j) = true) →
   wpIh P S hs ops (TIh P S hs ops i (wpTr P S hs ops m Q k (rem.filter fun j => j != i) (fls.filter fun j => !need m i j))) (fls.filter fun j => need m i j) a w
theorem zer {L : List Nat} {i : Nat} (h : L.Pairwise (· < ·)) (hi : i ∈ L) : ∃ pre post, L = pre ++ i :: post ∧ (L.filter fun j => j != i) = pre ++ post ∧ (∀ j ∈ pre, j < i) ∧ (∀ j ∈ post, i < j) := by
 obtain ⟨pre, post, rfl⟩ := List.append_of_mem hi
 have h1 : ∀ j ∈ pre, j < i := fun j hj => (yaG.1 h).2.2 j hj i yae
 have h2 : ∀ j ∈ post, i < j := fun j hj => (yam.1 (yaG.1 h).2.1).1 j hj
 refine ⟨pre, post, rfl, ?_, h1, h2⟩
 rw [ybf, ybx (by simp), yaQ.2, yaQ.2]
 ·intro j hj; have := h2 j hj; simp; omega
 intro j hj; have := h1 j hj; simp; omega
theorem zqj {Q : Act → World → Prop} (ok : OkU P hs ops m) {i : Nat} {o : Oper} (ho : ops[i]? = some o) (hio : other P hs ops i = false) : ∀ (k : Nat) (rem fls : List Nat), rem.length = k → rem.Pairwise (· < ·) → (∀ j ∈ rem, j < ops.size ∧ j ≠ i ∧ need m i j = false) →
  fls.Pairwise (· < ·) → (∀ j ∈ fls, j < ops.size ∧ need m i j = false) → i ∈ fls → ∀ (a : Act) (w : World), S w → wpTr P S hs ops m Q k rem fls a w → TIh P S hs ops i (wpTr P S hs ops m Q k rem (fls.filter fun j => j != i)) a w := by
 have hfl : zbv P hs o = true := by
  unfold other at hio
  rw [ho] at hio
  simpa using hio
 intro k
 induction k with
 | zero =>
  intro rem fls _ _ _ hpw hfls hi a w hw h
  obtain ⟨pre, post, rfl, he, h1, h2⟩ := zer hpw hi
  rw [he]
  exact zhE ok ho hio pre post (fun j hj => ⟨by have := h1 j hj; omega, (hfls j (by simp [hj])).2, ok.low j i (hfls j (by simp [hj])).1 (Nat.le_of_lt (h1 j hj))⟩) a w hw h
 | succ k ih =>
  intro rem fls hlen hrp hrem hpw hfls hi a w hw h
  obtain ⟨i0, r, rfl⟩ : ∃ i0 r, rem = i0 :: r := by
   cases rem with
   | nil => cases hlen
   | cons a b => exact ⟨a, b, rfl⟩
  have hav0 : ((i0 :: r).all fun j => !need m i0 j) = true := yaF.2 fun j hj => by
   rw [ok.low i0 j (hrem i0 yae).1]
   ·rfl
   rcases yah.1 hj with rfl | hj
   ·exact yag _
   exact Nat.le_of_lt ((yam.1 hrp).1 j hj)
  refine zqA ho hw (.inl hfl) i0 ⟨yae, hav0⟩ fun i' hi' => ?_
  have h' := h i' hi'
  obtain ⟨hi's, hi'ne, hi'n⟩ := hrem i' hi'.1
  by_cases hn : need m i' i = true
  ·obtain ⟨pre, post, rfl, he, h1, h2⟩ := zer hpw hi
   rw [he]
   have e3 : ((pre ++ i :: post).filter fun j => need m i' j) = (pre.filter fun j => need m i' j) ++ i :: (post.filter fun j => need m i' j) := by
    rw [ybf, ybM hn]
   have e4 : ((pre ++ i :: post).filter fun j => !need m i' j) = (pre.filter fun j => !need m i' j) ++ (post.filter fun j => !need m i' j) := by
    rw [ybf, ybx (by simp [hn])]
   rw [e3, e4] at h'
   rw [ybf, ybf]
   exact zhE ok ho hio _ _ (fun j hj => by
    have hj := (yav.1 hj).1
    exact ⟨by have := h1 j hj; omega, (hfls j (by simp [hj])).2, ok.low j i (hfls j (by simp [hj])).1 (Nat.le_of_lt (h1 j hj))⟩) a w hw h'
  have hn : need m i' i = false := by simpa using hn
  have e1 : ((fls.filter fun j => j != i).filter fun j => need m i' j) = fls.filter fun j => need m i' j := by
   rw [ybU]
   refine yca fun j _ => ?_
   by_cases hji : j = i
   ·subst hji; simp [hn]
   simp [hji]
  have e2 : ((fls.filter fun j => j != i).filter fun j => !need m i' j) = (fls.filter fun j => !need m i' j).filter fun j => j != i := by
   rw [ybU, ybU]
   exact yca fun j _ => Bool.and_comm _ _
  rw [e1, e2]
  have h2 : wpIh P S hs ops (TIh P S hs ops i (TIh P S hs ops i' (wpTr P S hs ops m Q k ((i0 :: r).filter fun j => j != i') ((fls.filter fun j => !need m i' j).filter fun j => j != i)))) (fls.filter fun j => need m i' j) a w := by
   refine zem _ hw (fun a w hS hh => ?_) h'
   refine zrp hS (fun p hp => ok.sel i' p hp) (fun p hp => ok.sel i p hp) (fun p o' hp ho' => ok.comm i o' ho' i' p hp hi'ne hi'n hn (.inl hio)) ?_
   obtain ⟨pre, post, er, he, _, _⟩ := zer hrp hi'.1
   refine zeu hS (fun a w hS hh => ih _ _ ?_ (hrp.filter _) (fun j hj => hrem j (yav.1 hj).1) (hpw.filter _) (fun j hj => hfls j (yav.1 hj).1) (yav.2 ⟨hi, by simp [hn]⟩) a w hS hh) hh
   rw [he]; rw [er] at hlen; simp at hlen ⊢; omega
  rw [zeZ] at h2
  have h3 := zhE (post := []) ok ho hio _ (fun j hj => by
   obtain ⟨hj1, hj2⟩ := yav.1 hj
   refine ⟨fun e => ?_, (hfls j hj1).2, ?_⟩
   ·subst e; rw [hn] at hj2; cases hj2
   cases hc : need m j i with
   | false => rfl
   | true =>
    have := ok.trans i' j i hi's hj2 hc
    rw [hn] at this; cases this) a w hw h2
  rw [yaA] at h3
  exact h3
theorem znx {Q : Exit → Act → World → Prop} (ok : OkU P hs ops m) : ∀ (fuel : Nat) (rem fls : List Nat) (listed : Array Bool) (a : Act) (w : World),
  rem.length + fls.length = fuel → listed.size = ops.size → zdw ops listed → rem.Pairwise (· < ·) → fls.Pairwise (· < ·) → (∀ j, j ∈ rem ↔ (j < ops.size ∧ listed.getD j false = false) ∧ other P hs ops j = true) →
  (∀ j, j ∈ fls ↔ (j < ops.size ∧ listed.getD j false = false) ∧ other P hs ops j = false) → S w → wpTr P S hs ops m (fun a w => S w → Q .normal a w) rem.length rem fls a w → zei P .any ops (Q .normal) fuel listed a w := by
 intro fuel
 induction fuel with
 | zero =>
  intro rem fls listed a w hlen hsz hcl hrp hfp hr hf hw h
  obtain rfl : rem = [] := yan OM
  obtain rfl : fls = [] := yan OM
  refine ⟨?_, h hw⟩
  refine List.eq_nil_iff_forall_not_mem.2 fun i hi => ?_
  obtain ⟨h0, o, ho, _⟩ := mem_ready.1 hi
  have hlt : i < ops.size := (Array.getElem?_eq_some_iff.1 ho).1
  have h0' : listed.getD i false = false := by
   have : i < listed.size := OM
   simp [this] at h0 ⊢; exact h0
  cases hc : other P hs ops i with
  | true => have := (hr i).2 ⟨⟨hlt, h0'⟩, hc⟩; cases this
  | false => have := (hf i).2 ⟨⟨hlt, h0'⟩, hc⟩; cases this
 | succ fuel ih =>
  intro rem fls listed a w hlen hsz hcl hrp hfp hr hf hw h
  refine ⟨fun hrd => ?_, fun i hi => ?_⟩
  ·have hex : ∃ k, k < ops.size ∧ listed.getD k false = false ∧ ∀ j, j < k → ¬ (j < ops.size ∧ listed.getD j false = false) := by
    obtain ⟨x, hx⟩ : ∃ x, x < ops.size ∧ listed.getD x false = false := by
     cases rem with
     | cons x l => exact ⟨x, ((hr x).1 yae).1⟩
     | nil =>
      cases fls with
      | cons x l => exact ⟨x, ((hf x).1 yae).1⟩
      | nil => cases hlen
    have : ∀ n x, x ≤ n → x < ops.size ∧ listed.getD x false = false → ∃ k, k < ops.size ∧ listed.getD k false = false ∧ ∀ j, j < k → ¬ (j < ops.size ∧ listed.getD j false = false) := by
     intro n
     induction n with
     | zero => intro x hx hp; exact ⟨x, hp.1, hp.2, fun j hj => OM⟩
     | succ n ih =>
      intro x hx hp
      by_cases hj : ∃ j, j < x ∧ j < ops.size ∧ listed.getD j false = false
      ·obtain ⟨j, h1, h2⟩ := hj; exact ih j OM h2
      exact ⟨x, hp.1, hp.2, fun j h1 h2 => hj ⟨j, h1, h2⟩⟩
    exact this x x (yag _) hx
   obtain ⟨k, hk, hkl, hmin⟩ := hex
   have hrdy : k ∈ Region.ready .any ops listed := by
    refine mem_ready.2 ⟨?_, ops[k], Array.getElem?_eq_getElem hk, fun e he hb => ?_⟩
    ·have : k < listed.size := OM
     simp [this] at hkl ⊢; exact hkl
    have hlt' := ok.back k _ (Array.getElem?_eq_getElem hk) e he hb
    cases hl : listed.getD e.on false with
    | true => rfl
    | false => exact (hmin e.on hlt' ⟨OM, hl⟩).elim
   rw [hrd] at hrdy; cases hrdy
  obtain ⟨h0, o, ho, hdeps⟩ := mem_ready.1 hi
  have hlt : i < ops.size := (Array.getElem?_eq_some_iff.1 ho).1
  have hil : i < listed.size := OM
  have h0' : listed.getD i false = false := by simp [hil] at h0 ⊢; exact h0
  have hfree : ∀ j, j < ops.size → listed.getD j false = false → need m i j = false := fun j hj hl => by
   by_cases hji : i ≤ j
   ·exact ok.low i j hlt hji
   cases hm : need m i j with
   | false => rfl
   | true =>
    have := zjC ok hcl i i o (yag _) ho hdeps j OM hm
    rw [hl] at this; cases this
  have hcl' : zdw ops (listed.setIfInBounds i true) := by
   intro k p hk hl e he hb
   by_cases hki : k = i
   ·subst hki
    obtain rfl : p = o := Option.some.inj (hk.symm.trans ho)
    exact getD_set_true (hdeps e he hb)
   rw [getD_set_ne false (fun h => hki h.symm)] at hl
   exact getD_set_true (hcl k p hk hl e he hb)
  have hset : ∀ j, (listed.setIfInBounds i true).getD j false = false ↔ j ≠ i ∧ listed.getD j false = false := fun j => by
   by_cases hji : j = i
   ·subst hji; simp [hil]
   rw [getD_set_ne false (fun h => hji h.symm)]; simp [hji]
  have hmem' : ∀ (L : List Nat) (b : Bool), (∀ j, j ∈ L ↔ (j < ops.size ∧ listed.getD j false = false) ∧ other P hs ops j = b) → ∀ j, j ∈ (L.filter fun j => j != i) ↔ (j < ops.size ∧ (listed.setIfInBounds i true).getD j false = false) ∧ other P hs ops j = b := fun L b hL j => by
   rw [yav, hL, hset]
   simp only [bne_iff_ne, ne_eq]
   constructor
   ·rintro ⟨⟨⟨a, b⟩, c⟩, d⟩; exact ⟨⟨a, d, b⟩, c⟩
   rintro ⟨⟨a, d, b⟩, c⟩; exact ⟨⟨⟨a, b⟩, c⟩, d⟩
  have hno : ∀ (L : List Nat) (b : Bool), other P hs ops i ≠ b → (∀ j, j ∈ L ↔ (j < ops.size ∧ listed.getD j false = false) ∧ other P hs ops j = b) → (L.filter fun j => j != i) = L := fun L b hb hL => by
   refine yaQ.2 fun j hj => ?_
   have := ((hL j).1 hj).2
   simp only [bne_iff_ne, ne_eq]
   rintro rfl
   exact hb this
  cases hoi : other P hs ops i with
  | false =>
   have hin := (hf i).2 ⟨⟨hlt, h0'⟩, hoi⟩
   have hc := zqj ok ho hoi rem.length rem fls rfl hrp (fun j hj => by
    obtain ⟨⟨a1, a2⟩, a3⟩ := (hr j).1 hj
    exact ⟨a1, (fun e => by subst e; rw [hoi] at a3; cases a3), hfree j a1 a2⟩) hfp (fun j hj => by
    obtain ⟨⟨a1, a2⟩, a3⟩ := (hf j).1 hj
    exact ⟨a1, hfree j a1 a2⟩) hin a w hw h
   refine zbM (fun a w hK => ?_) (zbK hc hw)
   have hr' := hmem' rem true hr
   rw [hno rem true (by simp [hoi]) hr] at hr'
   obtain ⟨pre, post, er, he, _, _⟩ := zer hfp hin
   exact ih rem _ _ a w (by rw [he]; rw [er] at hlen; simp at hlen ⊢; omega) (by simp [hsz]) hcl' hrp (hfp.filter _) hr' (hmem' fls false hf) hK.1 hK.2
  | true =>
   have hin := (hr i).2 ⟨⟨hlt, h0'⟩, hoi⟩
   obtain ⟨pre, post, er, he, _, _⟩ := zer hrp hin
   obtain ⟨k, hk⟩ : ∃ k, rem.length = k + 1 := ⟨pre.length + post.length, by rw [er]; simp; omega⟩
   have hk2 : (rem.filter fun j => j != i).length = k := by rw [he]; rw [er] at hk; simp at hk ⊢; omega
   rw [hk] at h
   have h1 := h i ⟨hin, yaF.2 fun j hj => by
    obtain ⟨⟨a1, a2⟩, _⟩ := (hr j).1 hj
    rw [hfree j a1 a2]; rfl⟩
   have e1 : (fls.filter fun j => need m i j) = [] := List.filter_eq_nil_iff.2 fun j hj => by
    obtain ⟨⟨a1, a2⟩, _⟩ := (hf j).1 hj
    rw [hfree j a1 a2]; simp
   have e2 : (fls.filter fun j => !need m i j) = fls := yaQ.2 fun j hj => by
    obtain ⟨⟨a1, a2⟩, _⟩ := (hf j).1 hj
    rw [hfree j a1 a2]; rfl
   rw [e1, e2] at h1
   have hf' := hmem' fls false hf
   rw [hno fls false (by simp [hoi]) hf] at hf'
   refine zbM (fun a w hK => ?_) (zbK h1 hw)
   refine ih _ fls _ a w (by rw [hk2]; omega) (by simp [hsz]) hcl' (hrp.filter _) hfp (hmem' rem true hr) hf' hK.1 ?_
   rw [hk2]; exact hK.2
def treeB (P : Program) (hs : Option Tmp → Bool) (ops : Array Oper) (k : Nat) (R F : List Nat) : Bool :=
 let m := Region.before ops
 let ot := other P hs ops
 ((List.range ops.size).all fun i =>
  let o := ops.getD i default
  selB o && o.after.all (fun e => !Region.binds .any e || decide (e.on < i)) && decide ((m.getD i 0) < 2 ^ i) &&
  (List.range i).all fun j =>
   if need m i j then o.after.any (fun e => Region.binds .any e && (e.on == j || (decide (j < e.on) && need m e.on j))) && (List.range j).all (fun k => !need m j k || need m i k)
   else (ot i && ot j) || (commH P hs ops (ops.getD j default) o && commH P hs ops o (ops.getD j default))) &&
 (R == (List.range ops.size).filter ot && F == (List.range ops.size).filter (fun i => !ot i) && R.length == k)
theorem ztY {k : Nat} {R F : List Nat} (h : treeB P hs ops k R F = true) : OkU P hs ops (Region.before ops) := by
 unfold treeB at h
 simp only [yaq] at h
 have h := h.1
 simp only [yaF, List.mem_range, yaq] at h
 have lt : ∀ (i : Nat) (o : Oper), ops[i]? = some o → i < ops.size ∧ ops.getD i default = o := fun i o ho => by
  obtain ⟨hi, he⟩ := Array.getElem?_eq_some_iff.1 ho
  exact ⟨hi, by simp [hi, he]⟩
 have low : ∀ i j, i < ops.size → i ≤ j → need (Region.before ops) i j = false := fun i j hi hij => by
  have := (h i hi).1.2
  simp only [decide_eq_true_eq] at this
  exact Nat.testBit_lt_two_pow (ybv this (Nat.pow_le_pow_right OM hij))
 refine ⟨fun i o ho => ?_, fun i o ho e he hb => ?_, fun i o ho j hj hm => ?_, low, fun i o ho j p hp hne hm1 hm2 hot => ?_, fun i j k hi h1 h2 => ?_⟩
 ·obtain ⟨hi, he⟩ := lt i o ho
  have := (h i hi).1.1.1
  rw [he] at this; exact zic this
 ·obtain ⟨hi, he'⟩ := lt i o ho
  have := (h i hi).1.1.2
  rw [he'] at this
  have := (Array.all_eq_true_iff_forall_mem.1 this) e he
  simpa [hb] using this
 ·obtain ⟨hi, he'⟩ := lt i o ho
  have := (h i hi).2 j hj
  rw [he', if_pos hm, yaq] at this
  obtain ⟨e, he, hb⟩ := Array.any_eq_true'.1 this.1
  simp only [yaq, ybH, beq_iff_eq, decide_eq_true_eq] at hb
  exact ⟨e, he, hb.1, hb.2⟩
 ·obtain ⟨hi, he'⟩ := lt i o ho
  obtain ⟨hj, hp'⟩ := lt j p hp
  rcases Nat.lt_or_gt_of_ne hne with hlt | hlt
  ·have := (h i hi).2 j hlt
   rw [he', hp', hm1] at this
   simp only [ybP, if_false, ybH, yaq] at this
   rcases this with ⟨a, b⟩ | ⟨a, b⟩
   ·rcases hot with e | e <;> simp_all
   exact a
  have := (h j hj).2 i hlt
  rw [he', hp', hm2] at this
  simp only [ybP, if_false, ybH, yaq] at this
  rcases this with ⟨a, b⟩ | ⟨a, b⟩
  ·rcases hot with e | e <;> simp_all
  exact b
 have hji : j < i := Nat.lt_of_not_le fun hle => by rw [low i j hi hle] at h1; cases h1
 have hkj : k < j := Nat.lt_of_not_le fun hle => by rw [low j k OM hle] at h2; cases h2
 have := (h i hi).2 j hji
 rw [if_pos h1, yaq] at this
 have := yaF.1 this.2 k (List.mem_range.2 hkj)
 rw [h2] at this
 simpa using this
theorem zgr {Q : Exit → Act → World → Prop} {id : Nat} {l : List Oper} {a : Act} {w : World} (hm : P.follows .mixedOrders = true) (hs : Option Tmp → Bool) (S : World → Prop) (hw0 : S w.drew) (k : Nat) (R F : List Nat) (hB : treeB P hs l.toArray k R F = true)
  (h : wpTr P S hs l.toArray (Region.before l.toArray) (fun a w => S w → Q .normal a w) k R F a w.drew) : (Code.region id l.toArray true).wpX P Q a w := by
 refine zbm hm ?_
 have ok := ztY hB
 have hz : ∀ j, (Array.replicate l.toArray.size false).getD j false = false := fun j => by
  simp only [Array.getD_eq_getD_getElem?, Array.getElem?_replicate]; split <;> rfl
 have hB' := hB
 unfold treeB at hB'
 simp only [yaq, beq_iff_eq] at hB'
 obtain ⟨_, ⟨rfl, rfl⟩, rfl⟩ := hB'
 have hcount : ∀ (L : List Nat) (f : Nat → Bool), (L.filter f).length + (L.filter fun i => !f i).length = L.length := fun L f => by
  induction L with
  | nil => rfl
  | cons x L ih =>
   cases hx : f x
   ·rw [ybx (by simp [hx]), ybM (by simp [hx])]; simp; omega
   rw [ybM hx, ybx (by simp [hx])]; simp; omega
 refine znx (S := S) (hs := hs) ok _ _ _ _ a _ ?_ (by simp) ?_ (List.pairwise_lt_range.filter _) (List.pairwise_lt_range.filter _) (fun j => ?_) (fun j => ?_) hw0 h
 ·rw [hcount]; simp
 ·intro i o _ hl; rw [hz] at hl; cases hl
 ·rw [yav, hz]; simp
 rw [yav, hz]; simp
end
end Go.Pw
namespace Go.Vc
open Go Go.Pw
def TreeS (P : Program) (n : Nat) (K : Exit → Fr → World → Prop) (S : World → Prop) (hs : Option Tmp → Bool) (ops : Array Oper) (t : List It) : Nat → List Nat → List Nat → Fr → World → Prop
 | 0, _, fls => fun f w => Sat P n K .normal (.opsH S hs ops.toList (fls.map fun i => ops.getD i default) :: t) f w
 | k + 1, rem, fls => fun f w => ∀ i ∈ rem, (rem.all fun j => !need (Region.before ops) i j) = true →
   Sat P n (fun e g u => e = .normal ∧ TreeS P n K S hs ops t k (rem.filter fun j => j != i) (fls.filter fun j => !need (Region.before ops) i j) g u) .normal
    [.opsH S hs ops.toList (((fls.filter fun j => need (Region.before ops) i j) ++ [i]).map fun i => ops.getD i default)] f w
theorem TreeS.wp {P : Program} {n : Nat} {K : Exit → Fr → World → Prop} {S : World → Prop} {hs : Option Tmp → Bool} {l : List Oper} {t : List It} : ∀ (k : Nat) (rem fls : List Nat), (∀ i ∈ rem, i < l.toArray.size) → (∀ i ∈ fls, i < l.toArray.size) → ∀ (g : Fr) (u : World), TreeS P n K S hs l.toArray t k rem fls g u → Ok n g → S u →
  wpTr P S hs l.toArray (Region.before l.toArray) (fun c w => S w → LiftE n (after P n t K) .normal c w) k rem fls (act n g) u := by
 have sat : ∀ {K' : Exit → Fr → World → Prop} {t' : List It} {L : List Nat} {g : Fr} {u : World}, Sat P n K' .normal (.opsH S hs l (L.map fun i => l.toArray.getD i default) :: t') g u → Ok n g → S u → (∀ i ∈ L, i < l.toArray.size) →
   wpIh P S hs l.toArray (fun c w => S w → Lift n (after P n t' K' .normal) c w) L (act n g) u := fun {K' t' L g u} hh hg hS hL => by
  rw [zkW L hL]
  exact hh.h hg hS
 intro k
 induction k with
 | zero => intro rem fls _ hF g u h hg hS; exact sat h hg hS hF
 | succ k ih =>
  intro rem fls hR hF g u h hg hS i ⟨hi, hav⟩
  have h1 := sat (h i hi hav) hg hS (fun j hj => by
   rcases yaj.1 hj with hj | hj
   ·exact hF j (yav.1 hj).1
   rw [yac.1 hj]; exact hR i hi)
  rw [← zeZ] at h1
  refine zem _ hS (fun c u hS hh => ?_) h1
  refine zeu hS (fun c u hS hh => ?_) hh
  obtain ⟨g', hg', rfl, _, hT⟩ := hh hS
  exact ih _ _ (fun j hj => hR j (yav.1 hj).1) (fun j hj => hF j (yav.1 hj).1) g' u hT hg' hS
theorem Draw.tree {P : Program} {n : Nat} {K : Exit → Fr → World → Prop} {id : Nat} {ops : Array Oper} {t : List It} {f : Fr} {w : World} (S : World → Prop) (hs : Option Tmp → Bool) (k : Nat) (R F : List Nat) (hB : treeB P hs ops k R F = true) (hw : S w.drew)
  (h : TreeS P n K S hs ops t k R F f w.drew) : Draw P n K id ops t f w :=
 ⟨fun hm hf => by
  obtain ⟨l⟩ := ops
  refine zgr hm hs S hw k R F hB ?_
  have hB' := hB
  unfold treeB at hB'
  simp only [yaq, beq_iff_eq] at hB'
  obtain ⟨_, ⟨eR, eF⟩, _⟩ := hB'
  refine TreeS.wp k R F (fun i hi => ?_) (fun i hi => ?_) f _ h hf hw
  ·rw [eR] at hi; simpa using (yav.1 hi).1
  rw [eF] at hi; simpa using (yav.1 hi).1⟩
theorem TreeS.node {P : Program} {n : Nat} {K : Exit → Fr → World → Prop} {S : World → Prop} {hs : Option Tmp → Bool} {ops : Array Oper} {t : List It} {k : Nat} {rem fls : List Nat} {f : Fr} {w : World} (Ls : List (Nat × List Nat × List Nat × List Nat))
  (hB : ((rem.filter fun i => rem.all fun j => !need (Region.before ops) i j).map fun i => (i, (fls.filter fun j => need (Region.before ops) i j) ++ [i], (rem.filter fun j => j != i), fls.filter fun j => !need (Region.before ops) i j)) = Ls)
  (h : ∀ p ∈ Ls, Sat P n (fun e g u => e = .normal ∧ TreeS P n K S hs ops t k p.2.2.1 p.2.2.2 g u) .normal [.opsH S hs ops.toList (p.2.1.map fun i => ops.getD i default)] f w) : TreeS P n K S hs ops t (k + 1) rem fls f w := fun i hi hav =>
 h _ (hB ▸ yay.2 ⟨i, yav.2 ⟨hi, hav⟩, rfl⟩)
theorem TreeS.leaf {P : Program} {n : Nat} {K : Exit → Fr → World → Prop} {S : World → Prop} {hs : Option Tmp → Bool} {ops : Array Oper} {t : List It} {rem fls : List Nat} {f : Fr} {w : World} (h : Sat P n K .normal (.opsH S hs ops.toList (fls.map fun i => ops.getD i default) :: t) f w) : TreeS P n K S hs ops t 0 rem fls f w := h
end Go.Vc
