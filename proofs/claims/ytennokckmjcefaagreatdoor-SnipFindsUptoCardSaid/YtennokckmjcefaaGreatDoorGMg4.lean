/- Helper lemmas that the proved statement rests on; no conditions of their own. -/
import Derived.Test.YtennokckmjcefaaGreatDoorGMg2
set_option linter.unusedVariables false
set_option maxHeartbeats 8000000
set_option maxRecDepth 100000
namespace Go.Proofs.YtennokckmjcefaaGreatDoor
open Go.Shelf Go.RowKit Go.Pw Go.Vc Go.Cs Go.Lib Go.Cd Go.Mg
def PtrO {α : Type} (w : World) (c : α → List Value) (v : Value) : Option α → Prop
 | none => v = .pointer none
 | some x => ∃ g o, v = .pointer (some ⟨g, o, none⟩) ∧ At w g o (c x)
theorem zbr {α : Type} {w : World} {c : α → List Value} {g o : Nat} {x : α} {xs : List α} (h : At w g o ((x :: xs).flatMap c)) : At w g o (c x) := fun j v hj => h j v (by
 rw [List.flatMap_cons, List.getElem?_append_left (List.getElem?_eq_some_iff.1 hj).1]; exact hj)
theorem zay {α : Type} {w : World} {c : α → List Value} {s g o cp : Nat} {x : α} {xs : List α} (hs : ∀ x, (c x).length = s) (h : At w g o ((x :: xs).flatMap c)) (hg : g < w.heap.size) (hc : xs.length + 1 ≤ cp) :
  RowO w (.slice (some ⟨g, if 1 = cp then o else o + 1 * s, none⟩) (xs.length + 1 - 1) (cp - 1)) c xs :=
 ⟨_, _, rfl, fun h0 => ⟨g, _, rfl, hg, by
  rw [if_neg (by omega)]
  exact znQ hs h 1⟩⟩
theorem zaB {a : Option Addr} {n cp : Nat} (h : n + 1 ≤ cp) : CapK (.slice a (n + 1 - 1) (cp - 1)) := fun a' n' c' e => by
 injection e with _ e1 e2
 omega
section
variable {w : World}
theorem zoY {w0 : World} {va vb p0 : Value} {g1 g2 : Nat} (la lb : List Int) (cmp : Int → Int → Int) (I : List (Option Int × Option Int) → World → Prop)
  (ha : RowO w0 va inC la) (hb : RowO w0 vb inC lb) (hca : CapK va) (hcb : CapK vb) (hla : la.length ≤ 1000000000000) (hlb : lb.length ≤ 1000000000000)
  (hg1 : ∀ (args : Array Value) (w : World), (callFunc g1 args).run Tryz.prog w = .ok (.enter g1 args) w) (hg2 : ∀ (args : Array Value) (w : World), (callFunc g2 args).run Tryz.prog w = .ok (.enter g2 args) w)
  (hI : ∀ d u, I d u → Kp w0 u n_) (hIk : ∀ d u u', I d u → Kp u u' n_ → I d u')
  (hcmp : ∀ x y u, Kp w0 u n_ → Calls Tryz.prog g1 #[.int .i64 x, .int .i64 y] u fun e u' => e = .returned (.int .i64 (cmp x y)) ∧ Kp u u' n_)
  (hsee : ∀ d rest xo yo px py u, bothL cmp la lb = d ++ (xo, yo) :: rest → Kp w0 u n_ → PtrO w0 inC px xo → PtrO w0 inC py yo → I d u →
   Calls Tryz.prog g2 #[px, py, p0] u fun e u' => e = .returned (.tuple #[]) ∧ I (d ++ [(xo, yo)]) u') (h0 : I [] w) :
  Calls Tryz.prog 223 #[va, vb, .func (.func g1) #[] #[], .func (.func g2) #[] #[p0]] w fun e w' => e = .returned (.tuple #[]) ∧ I (bothL cmp la lb) w' := by
 obtain ⟨a, ca, rfl, hra⟩ := ha
 obtain ⟨b, cb, rfl, hrb⟩ := hb
 refine zaa (args := [.slice a la.length ca, .slice b lb.length cb, .func (.func g1) #[] #[], .func (.func g2) #[] #[p0]]) Tryz.func223 rfl NL ?_; refine GW ?_
 refine Loop.intro (ι := (Value × List Int) × (Value × List Int) × List (Option Int × Option Int)) (fun i => [(0, i.1.1), (1, i.2.1.1), (2, .func (.func g1) #[] #[]), (3, .func (.func g2) #[] #[p0])])
  (fun i wr => RowO w0 i.1.1 inC i.1.2 ∧ CapK i.1.1 ∧ RowO w0 i.2.1.1 inC i.2.1.2 ∧ CapK i.2.1.1 ∧ i.2.2 ++ bothL cmp i.1.2 i.2.1.2 = bothL cmp la lb ∧ I i.2.2 wr ∧ i.1.2.length ≤ la.length ∧ i.2.1.2.length ≤ lb.length)
  (fun i => i.1.2.length + i.2.1.2.length) ((.slice a la.length ca, la), (.slice b lb.length cb, lb), []) ⟨rfl, rfl, rfl, rfl, trivial⟩ ⟨⟨a, ca, rfl, hra⟩, hca, ⟨b, cb, rfl, hrb⟩, hcb, rfl, h0, Nat.le_refl _, Nat.le_refl _⟩ ?_
 clear hra hrb hca hcb h0
 rintro ⟨⟨vx, xs⟩, ⟨vy, ys⟩, d⟩ gg wr ⟨hx, hcx, hy, hcy, hd, hi, hlx, hly⟩
 dsimp only at hx hcx hy hcy hd hi hlx hly ⊢
 have hx0 := hx
 have hy0 := hy
 obtain ⟨a, ca, rfl, hra⟩ := hx
 obtain ⟨b, cb, rfl, hrb⟩ := hy
 have hca := hcx _ _ _ rfl
 have hcb := hcy _ _ _ rfl
 have hK := hI _ _ hi
 have hid : I d wr.drew := hIk _ _ _ hi (Kp.refl wr n_).drew
 refine GW ?_
 cases xs with
 | nil =>
  cases ys with
  | nil =>
   rw [List.length_nil] at *
   refine KGO ?_
   rw [show bothL cmp [] [] = [] from rfl, List.append_nil] at hd
   rw [← hd]
   exact ⟨rfl, hi⟩
  | cons y ys =>
   obtain ⟨gy, oy, rfl, hgy, hay⟩ := hrb (by simp)
   rw [show bothL cmp [] (y :: ys) = (none, some y) :: bothL cmp [] ys from rfl] at hd
   have hay1 : At w0 gy (oy + 0 * 1) (inC y) := by rw [Nat.zero_mul]; exact zbr hay
   rw [List.length_nil, List.length_cons] at *
   refine KGO ?_
   refine Cut.from (l := 1) (by omega) (by omega) ?_
   refine GW ?_
   refine KGO ?_
   refine CallS.of (hg2 _ _) (hsee d _ none (some y) _ _ _ hd.symm hK.drew rfl ⟨gy, _, rfl, hay1⟩ hid) ?_
   rintro e w1 ⟨rfl, hi1⟩
   refine RT ?_
   exact ⟨((_, []), (_, ys), d ++ [(none, some y)]), ⟨rfl, rfl, rfl, rfl, trivial⟩, ⟨hx0, hcx, zay (fun _ => rfl) hay hgy hcb, zaB hcb, by rw [List.append_assoc]; exact hd, hi1, hlx, by dsimp only; omega⟩, by dsimp only [List.length_cons]; omega⟩
 | cons x xs =>
  obtain ⟨gx, ox, rfl, hgx, hax⟩ := hra (by simp)
  have hax1 : At w0 gx (ox + 0 * 1) (inC x) := by rw [Nat.zero_mul]; exact zbr hax
  cases ys with
  | nil =>
   rw [zaV, List.map_cons] at hd
   rw [List.length_nil, List.length_cons] at *
   refine KGO ?_
   refine Cut.from (l := 1) (by omega) (by omega) ?_
   refine GW ?_
   refine KGO ?_
   refine CallS.of (hg2 _ _) (hsee d _ (some x) none _ _ _ hd.symm hK.drew ⟨gx, _, rfl, hax1⟩ rfl hid) ?_
   rintro e w1 ⟨rfl, hi1⟩
   refine RT ?_
   exact ⟨((_, xs), (_, []), d ++ [(some x, none)]), ⟨rfl, rfl, rfl, rfl, trivial⟩, ⟨zay (fun _ => rfl) hax hgx hca, zaB hca, hy0, hcy, by rw [List.append_assoc, zaV]; exact hd, hi1, by dsimp only; omega, hly⟩, by dsimp only [List.length_cons]; omega⟩
  | cons y ys =>
   obtain ⟨gy, oy, rfl, hgy, hay⟩ := hrb (by simp)
   have hay1 : At w0 gy (oy + 0 * 1) (inC y) := by rw [Nat.zero_mul]; exact zbr hay
   rw [zbe] at hd
   rw [List.length_cons, List.length_cons] at *
   refine KGO ?_
   refine CallS.of (hg1 _ _) (hcmp x y _ hK.drew) ?_
   rintro e w1 ⟨rfl, k1⟩
   have hi1 := hIk _ _ _ hid k1
   have hK1 := hI _ _ hi1
   have hi2 : I d w1.drew := hIk _ _ _ hi1 (Kp.refl w1 n_).drew
   have hi3 : I d w1.drew.drew := hIk _ _ _ hi2 (Kp.refl w1.drew n_).drew
   refine RT ?_
   by_cases h1 : cmp x y < 0
   ·rw [if_pos h1] at hd
    refine KGO ?_
    refine Cut.from (l := 1) (by omega) (by omega) ?_
    refine GW ?_
    refine KGO ?_
    refine KGO ?_
    refine CallS.of (hg2 _ _) (hsee d _ (some x) none _ _ _ hd.symm hK1.drew ⟨gx, _, rfl, hax1⟩ rfl hi2) ?_
    rintro e w2 ⟨rfl, hi4⟩
    refine RT ?_
    exact ⟨((_, xs), (_, y :: ys), d ++ [(some x, none)]), ⟨rfl, rfl, rfl, rfl, trivial⟩, ⟨zay (fun _ => rfl) hax hgx hca, zaB hca, hy0, hcy, by rw [List.append_assoc]; exact hd, hi4, by dsimp only; omega, by dsimp only [List.length_cons]; omega⟩, by dsimp only [List.length_cons]; omega⟩
   rw [if_neg h1] at hd
   by_cases h2 : cmp x y = 0
   ·rw [if_pos h2] at hd
    refine KGO ?_
    refine Cut.from (l := 1) (by omega) (by omega) ?_
    refine GW ?_
    refine KGO ?_
    refine KGO ?_
    refine Cut.from (l := 1) (by omega) (by omega) ?_
    refine GW ?_
    refine KGO ?_
    refine CallS.of (hg2 _ _) (hsee d _ (some x) (some y) _ _ _ hd.symm (hI _ _ hi3) ⟨gx, _, rfl, hax1⟩ ⟨gy, _, rfl, hay1⟩ hi3) ?_
    rintro e w2 ⟨rfl, hi4⟩
    refine RT ?_
    exact ⟨((_, xs), (_, ys), d ++ [(some x, some y)]), ⟨rfl, rfl, rfl, rfl, trivial⟩, ⟨zay (fun _ => rfl) hax hgx hca, zaB hca, zay (fun _ => rfl) hay hgy hcb, zaB hcb, by rw [List.append_assoc]; exact hd, hi4, by dsimp only; omega, by dsimp only; omega⟩, by dsimp only [List.length_cons]; omega⟩
   rw [if_neg h2] at hd
   refine KGO ?_
   refine Cut.from (l := 1) (by omega) (by omega) ?_
   refine GW ?_
   refine KGO ?_
   refine CallS.of (hg2 _ _) (hsee d _ none (some y) _ _ _ hd.symm hK1.drew rfl ⟨gy, _, rfl, hay1⟩ hi2) ?_
   rintro e w2 ⟨rfl, hi4⟩
   refine RT ?_
   exact ⟨((_, x :: xs), (_, ys), d ++ [(none, some y)]), ⟨rfl, rfl, rfl, rfl, trivial⟩, ⟨hx0, hcx, zay (fun _ => rfl) hay hgy hcb, zaB hcb, by rw [List.append_assoc]; exact hd, hi4, by dsimp only [List.length_cons]; omega, by dsimp only; omega⟩, by dsimp only [List.length_cons]; omega⟩
theorem zoG {w0 : World} {va vb p0 : Value} {g1 g2 : Nat} (la lb : List Pr) (cmp : Pr → Pr → Int) (I : List (Option Pr × Option Pr) → World → Prop)
  (ha : RowO w0 va prC la) (hb : RowO w0 vb prC lb) (hca : CapK va) (hcb : CapK vb) (hla : la.length ≤ 1000000000000) (hlb : lb.length ≤ 1000000000000)
  (hg1 : ∀ (args : Array Value) (w : World), (callFunc g1 args).run Tryz.prog w = .ok (.enter g1 args) w) (hg2 : ∀ (args : Array Value) (w : World), (callFunc g2 args).run Tryz.prog w = .ok (.enter g2 args) w)
  (hI : ∀ d u, I d u → Kp w0 u n_) (hIk : ∀ d u u', I d u → Kp u u' n_ → I d u')
  (hcmp : ∀ x y u, Kp w0 u n_ → Calls Tryz.prog g1 #[.agg (prC x).toArray, .agg (prC y).toArray] u fun e u' => e = .returned (.int .i64 (cmp x y)) ∧ Kp u u' n_)
  (hsee : ∀ d rest xo yo px py u, bothL cmp la lb = d ++ (xo, yo) :: rest → Kp w0 u n_ → PtrO w0 prC px xo → PtrO w0 prC py yo → I d u →
   Calls Tryz.prog g2 #[px, py, p0] u fun e u' => e = .returned (.tuple #[]) ∧ I (d ++ [(xo, yo)]) u') (h0 : I [] w) :
  Calls Tryz.prog 219 #[va, vb, .func (.func g1) #[] #[], .func (.func g2) #[] #[p0]] w fun e w' => e = .returned (.tuple #[]) ∧ I (bothL cmp la lb) w' := by
 obtain ⟨a, ca, rfl, hra⟩ := ha
 obtain ⟨b, cb, rfl, hrb⟩ := hb
 refine zaa (args := [.slice a la.length ca, .slice b lb.length cb, .func (.func g1) #[] #[], .func (.func g2) #[] #[p0]]) Tryz.func219 rfl NL ?_; refine GW ?_
 refine Loop.intro (ι := (Value × List Pr) × (Value × List Pr) × List (Option Pr × Option Pr)) (fun i => [(0, i.1.1), (1, i.2.1.1), (2, .func (.func g1) #[] #[]), (3, .func (.func g2) #[] #[p0])])
  (fun i wr => RowO w0 i.1.1 prC i.1.2 ∧ CapK i.1.1 ∧ RowO w0 i.2.1.1 prC i.2.1.2 ∧ CapK i.2.1.1 ∧ i.2.2 ++ bothL cmp i.1.2 i.2.1.2 = bothL cmp la lb ∧ I i.2.2 wr ∧ i.1.2.length ≤ la.length ∧ i.2.1.2.length ≤ lb.length)
  (fun i => i.1.2.length + i.2.1.2.length) ((.slice a la.length ca, la), (.slice b lb.length cb, lb), []) ⟨rfl, rfl, rfl, rfl, trivial⟩ ⟨⟨a, ca, rfl, hra⟩, hca, ⟨b, cb, rfl, hrb⟩, hcb, rfl, h0, Nat.le_refl _, Nat.le_refl _⟩ ?_
 clear hra hrb hca hcb h0
 rintro ⟨⟨vx, xs⟩, ⟨vy, ys⟩, d⟩ gg wr ⟨hx, hcx, hy, hcy, hd, hi, hlx, hly⟩
 dsimp only at hx hcx hy hcy hd hi hlx hly ⊢
 have hx0 := hx
 have hy0 := hy
 obtain ⟨a, ca, rfl, hra⟩ := hx
 obtain ⟨b, cb, rfl, hrb⟩ := hy
 have hca := hcx _ _ _ rfl
 have hcb := hcy _ _ _ rfl
 have hK := hI _ _ hi
 have hid : I d wr.drew := hIk _ _ _ hi (Kp.refl wr n_).drew
 refine GW ?_
 cases xs with
 | nil =>
  cases ys with
  | nil =>
   rw [List.length_nil] at *
   refine KGO ?_
   rw [show bothL cmp [] [] = [] from rfl, List.append_nil] at hd
   rw [← hd]
   exact ⟨rfl, hi⟩
  | cons y ys =>
   obtain ⟨gy, oy, rfl, hgy, hay⟩ := hrb (by simp)
   rw [show bothL cmp [] (y :: ys) = (none, some y) :: bothL cmp [] ys from rfl] at hd
   have hay1 : At w0 gy (oy + 0 * 2) (prC y) := by rw [Nat.zero_mul]; exact zbr hay
   rw [List.length_nil, List.length_cons] at *
   refine KGO ?_
   refine Cut.from (l := 1) (by omega) (by omega) ?_
   refine GW ?_
   refine KGO ?_
   refine CallS.of (hg2 _ _) (hsee d _ none (some y) _ _ _ hd.symm hK.drew rfl ⟨gy, _, rfl, hay1⟩ hid) ?_
   rintro e w1 ⟨rfl, hi1⟩
   refine RT ?_
   exact ⟨((_, []), (_, ys), d ++ [(none, some y)]), ⟨rfl, rfl, rfl, rfl, trivial⟩, ⟨hx0, hcx, zay (fun _ => rfl) hay hgy hcb, zaB hcb, by rw [List.append_assoc]; exact hd, hi1, hlx, by dsimp only; omega⟩, by dsimp only [List.length_cons]; omega⟩
 | cons x xs =>
  obtain ⟨gx, ox, rfl, hgx, hax⟩ := hra (by simp)
  have hax1 : At w0 gx (ox + 0 * 2) (prC x) := by rw [Nat.zero_mul]; exact zbr hax
  cases ys with
  | nil =>
   rw [zaV, List.map_cons] at hd
   rw [List.length_nil, List.length_cons] at *
   refine KGO ?_
   refine Cut.from (l := 1) (by omega) (by omega) ?_
   refine GW ?_
   refine KGO ?_
   refine CallS.of (hg2 _ _) (hsee d _ (some x) none _ _ _ hd.symm hK.drew ⟨gx, _, rfl, hax1⟩ rfl hid) ?_
   rintro e w1 ⟨rfl, hi1⟩
   refine RT ?_
   exact ⟨((_, xs), (_, []), d ++ [(some x, none)]), ⟨rfl, rfl, rfl, rfl, trivial⟩, ⟨zay (fun _ => rfl) hax hgx hca, zaB hca, hy0, hcy, by rw [List.append_assoc, zaV]; exact hd, hi1, by dsimp only; omega, hly⟩, by dsimp only [List.length_cons]; omega⟩
  | cons y ys =>
   obtain ⟨gy, oy, rfl, hgy, hay⟩ := hrb (by simp)
   have hay1 : At w0 gy (oy + 0 * 2) (prC y) := by rw [Nat.zero_mul]; exact zbr hay
   rw [zbe] at hd
   rw [List.length_cons, List.length_cons] at *
   refine KGO ?_
   refine CallS.of (hg1 _ _) (hcmp x y _ hK.drew) ?_
   rintro e w1 ⟨rfl, k1⟩
   have hi1 := hIk _ _ _ hid k1
   have hK1 := hI _ _ hi1
   have hi2 : I d w1.drew := hIk _ _ _ hi1 (Kp.refl w1 n_).drew
   have hi3 : I d w1.drew.drew := hIk _ _ _ hi2 (Kp.refl w1.drew n_).drew
   refine RT ?_
   by_cases h1 : cmp x y < 0
   ·rw [if_pos h1] at hd
    refine KGO ?_
    refine Cut.from (l := 1) (by omega) (by omega) ?_
    refine GW ?_
    refine KGO ?_
    refine KGO ?_
    refine CallS.of (hg2 _ _) (hsee d _ (some x) none _ _ _ hd.symm hK1.drew ⟨gx, _, rfl, hax1⟩ rfl hi2) ?_
    rintro e w2 ⟨rfl, hi4⟩
    refine RT ?_
    exact ⟨((_, xs), (_, y :: ys), d ++ [(some x, none)]), ⟨rfl, rfl, rfl, rfl, trivial⟩, ⟨zay (fun _ => rfl) hax hgx hca, zaB hca, hy0, hcy, by rw [List.append_assoc]; exact hd, hi4, by dsimp only; omega, by dsimp only [List.length_cons]; omega⟩, by dsimp only [List.length_cons]; omega⟩
   rw [if_neg h1] at hd
   by_cases h2 : cmp x y = 0
   ·rw [if_pos h2] at hd
    refine KGO ?_
    refine Cut.from (l := 1) (by omega) (by omega) ?_
    refine GW ?_
    refine KGO ?_
    refine KGO ?_
    refine Cut.from (l := 1) (by omega) (by omega) ?_
    refine GW ?_
    refine KGO ?_
    refine CallS.of (hg2 _ _) (hsee d _ (some x) (some y) _ _ _ hd.symm (hI _ _ hi3) ⟨gx, _, rfl, hax1⟩ ⟨gy, _, rfl, hay1⟩ hi3) ?_
    rintro e w2 ⟨rfl, hi4⟩
    refine RT ?_
    exact ⟨((_, xs), (_, ys), d ++ [(some x, some y)]), ⟨rfl, rfl, rfl, rfl, trivial⟩, ⟨zay (fun _ => rfl) hax hgx hca, zaB hca, zay (fun _ => rfl) hay hgy hcb, zaB hcb, by rw [List.append_assoc]; exact hd, hi4, by dsimp only; omega, by dsimp only; omega⟩, by dsimp only [List.length_cons]; omega⟩
   rw [if_neg h2] at hd
   refine KGO ?_
   refine Cut.from (l := 1) (by omega) (by omega) ?_
   refine GW ?_
   refine KGO ?_
   refine CallS.of (hg2 _ _) (hsee d _ none (some y) _ _ _ hd.symm hK1.drew rfl ⟨gy, _, rfl, hay1⟩ hi2) ?_
   rintro e w2 ⟨rfl, hi4⟩
   refine RT ?_
   exact ⟨((_, x :: xs), (_, ys), d ++ [(none, some y)]), ⟨rfl, rfl, rfl, rfl, trivial⟩, ⟨hx0, hcx, zay (fun _ => rfl) hay hgy hcb, zaB hcb, by rw [List.append_assoc]; exact hd, hi4, by dsimp only [List.length_cons]; omega, by dsimp only; omega⟩, by dsimp only [List.length_cons]; omega⟩
end
section
variable {w : World}
theorem zhO (x : Int) : Calls Tryz.prog 189 #[.int .i64 x] w fun e w' => e = .returned (.bool false) ∧ w = w' := by
 refine zaa (args := [.int .i64 x]) Tryz.func189 rfl NL ?_; refine GW ?_
 exact ⟨zal (by simp), rfl⟩
theorem zjo (x y : Int) : Calls Tryz.prog 209 #[.int .i64 x, .int .i64 y] w fun e w' => e = .returned (.int .i64 (cmpI x y)) ∧ Kp w w' n_ := by
 refine zaa (args := [.int .i64 x, .int .i64 y]) Tryz.func209 rfl NL ?_; refine GW ?_
 refine CallS.of (Tryz.call189 _ _) (zhO x) ?_
 rintro e _ ⟨rfl, rfl⟩
 refine RT ?_
 refine CallS.of (Tryz.call189 _ _) (zhO y) ?_
 rintro e _ ⟨rfl, rfl⟩
 refine RT ?_
 unfold cmpI
 by_cases h1 : x < y
 ·refine KGO ?_
  exact ⟨by rw [if_pos h1], Kp.refl _ _⟩
 by_cases h2 : y < x
 ·refine KGO ?_
  exact ⟨by rw [if_neg h1, if_pos h2], Kp.refl _ _⟩
 ·refine KGO ?_
  exact ⟨by rw [if_neg h1, if_neg h2], Kp.refl _ _⟩
theorem zkg (x y : Pr) : Calls Tryz.prog 220 #[.agg (prC x).toArray, .agg (prC y).toArray] w fun e w' => e = .returned (.int .i64 (cmpI x.p.doc y.p.doc)) ∧ Kp w w' n_ := by
 refine zaa (args := [.agg (prC x).toArray, .agg (prC y).toArray]) Tryz.func220 rfl NL ?_; refine GW ?_
 obtain ⟨a_b1, v_b1, k_w1, z_w1, r_w1⟩ := new5 w 44 (prC x)
 generalize w.alloc (.cells (List.toArray (prC x)) 44) = w1 at *
 generalize hs_b1 : w.heap.size = b1 at *
 obtain ⟨a_b2, v_b2, k_w2, z_w2, r_w2⟩ := new5 w1 44 (prC y)
 generalize w1.alloc (.cells (List.toArray (prC y)) 44) = w2 at *
 generalize hs_b2 : w1.heap.size = b2 at *
 have K2 : Kp w w2 n_ := k_w1.trans0 k_w2
 have a1 := zam a_b1 k_w2
 clear a_b1
 refine KGO ?_
 refine CallS.of (Tryz.call209 _ _) (zjo x.p.doc y.p.doc) ?_
 rintro e w3 ⟨rfl, k3⟩
 refine RT ?_
 exact ⟨rfl, K2.trans0 k3⟩
theorem zif (x : Pr) (hx : RowI w x.h.v x.p.places) (hl : x.p.places.length ≤ 1000000000000) : Calls Tryz.prog 176 #[.agg (prC x).toArray] w fun e w' => ∃ r : Pr, e = .returned (.agg (prC r).toArray) ∧ r.p = x.p ∧ OwnI w' w.heap.size r.h.v r.p.places ∧ Kp w w' n_ := by
 refine zaa (args := [.agg (prC x).toArray]) Tryz.func176 rfl NL ?_; refine GW ?_
 obtain ⟨a_b1, v_b1, k_w1, z_w1, r_w1⟩ := new5 w 44 (prC x)
 generalize w.alloc (.cells (List.toArray (prC x)) 44) = w1 at *
 generalize hs_b1 : w.heap.size = b1 at *
 obtain ⟨a_b2, v_b2, k_w2, z_w2, r_w2⟩ := new5 w1 44 ([.int .i64 0, .slice none 0 0])
 generalize w1.alloc (.cells (List.toArray ([.int .i64 0, .slice none 0 0])) 44) = w2 at *
 generalize hs_b2 : w1.heap.size = b2 at *
 have v1 := v_b1.keep0 k_w2
 have a1 := v1.at
 have K2 : Kp w w2 n_ := k_w1.trans0 k_w2
 clear a_b1 v_b1
 refine KGO ?_
 refine CallS.of (Tryz.call222 _ _) (cl_I (w := w2) x.p.places (hx.keep K2) (by omega)) ?_
 rintro e w3 ⟨v3, rfl, o3, k3⟩
 obtain ⟨a3, c3, rfl⟩ := zab o3
 have z3 := K2.size
 have K3 := K2.trans0 k3
 refine RT ?_
 refine KGO ?_
 refine Store.cellK (i := 1) (v1.keep0 k3) (by simp [prC]) (by rfl) ⟨rfl, by simp, by simp⟩ fun w4 v4 k4 => ?_
 have K4 : Kp w w4 n_ := zah K3 k4 (by omega)
 have o4 := zag (D := [3]) o3 k4 (zak (v1.keep0 k3) (by decide)) (by decide)
 have w2v := (v_b2.keep0 k3).keep k4 (show ¬ b2 = b1 by omega)
 have a4 := v4.at
 have q4 := Kp.refl w4 n_
 refine KGO ?_
 refine SVK (prC ⟨x.p, ⟨a3, x.p.places.length, c3⟩⟩) w2v fun w5 v5 k5 => ?_
 have K5 : Kp w w5 n_ := zah K4 k5 (by omega)
 have o5 := zag (D := [3]) o4 k5 (zak w2v (by decide)) (by decide)
 have a5 := v5.at
 have q5 := Kp.refl w5 n_
 refine KGO ?_
 refine GW ?_
 exact ⟨⟨x.p, ⟨a3, x.p.places.length, c3⟩⟩, rfl, rfl, zaz o5 (by omega), K5⟩
theorem zru {w0 : World} {b : Nat} {vp px py : Value} {xo yo : Option Int} (d : Int) (l : List Int) (hv : VarK w b 44 [.int .i64 d, vp]) (ho : OwnI w b vp l) (hw : w0.heap.size ≤ b) (hk : Kp w0 w n_) (hl : l.length ≤ 4000000000000)
  (hx : PtrO w0 inC px xo) (hy : PtrO w0 inC py yo) (hne : xo ≠ none ∨ yo ≠ none) :
  Calls Tryz.prog 224 #[px, py, .pointer (some ⟨b, 0, none⟩)] w fun e w' => e = .returned (.tuple #[]) ∧ (∃ vp', VarK w' b 44 [.int .i64 d, vp'] ∧ OwnI w' b vp' (l ++ [fstO (xo, yo)])) ∧ Kp w0 w' n_ := by
 obtain ⟨a, c, rfl⟩ := zab ho
 have ha := hv.at
 cases xo with
 | none =>
  cases yo with
  | none => simp at hne
  | some y =>
   obtain rfl : px = .pointer none := hx
   obtain ⟨g, o, rfl, hat⟩ := hy
   refine zaa (args := [.pointer none, .pointer (some ⟨g, o, none⟩), .pointer (some ⟨b, 0, none⟩)]) Tryz.func224 rfl NL ?_; refine GW ?_
   refine KGO ?_
   refine Draw.heldEnd (fun u => Kp w0 u n_ ∧ VarK u b 44 [.int .i64 d, .slice a l.length c]) (fun _ => true) (by simp) (by decide +kernel) (by decide +kernel) ⟨hk.drew, hv.keep0 (Kp.refl w n_).drew⟩ ?_
   refine KGO ?_
   refine Held.one (by rfl) (fun u hu => hu.2.at 1 _ rfl) ?_
   refine KGO ?_
   refine Held.one (by rfl) (fun u hu => zaK (hat 0 _ rfl) hu.1) ?_
   refine KGO ?_
   have kd := (Kp.refl w n_).drew
   have hbl := hv.lt
   refine RunV.of (bs1I y _) ?_
   obtain ⟨a_b2, v_b2, k_w2, z_w2, r_w2⟩ := new5 w.drew 3 (inC y)
   generalize w.drew.alloc (.cells (List.toArray (inC y)) 3) = w2 at *
   generalize hs_b2 : w.drew.heap.size = b2 at *
   have v2 := (hv.keep0 kd).keep0 k_w2
   have o2 := zac (zac ho kd) k_w2
   have K2 := (hk.trans0 kd).trans0 k_w2
   have z2 := (kd.trans0 k_w2).size
   refine ⟨⟨K2, v2⟩, ?_⟩
   refine KGO ?_
   refine tyI.app1 y o2 (by omega) a_b2 (by omega) (by omega) fun v3 w3 o3 k3 => ?_
   obtain ⟨a3, c3, rfl⟩ := zab o3
   have v3' := v2.keep k3 (zaf o2 v2 (by decide))
   have K3 := zaU o2 k3 K2 hw
   refine ⟨⟨K3, v3'⟩, ?_⟩
   refine KGO ?_
   refine Store.cellK (i := 1) v3' (by simp) (by rfl) ⟨rfl, by simp, by simp⟩ fun w4 v4 k4 => ?_
   refine GW ?_
   exact ⟨rfl, ⟨_, v4, zag (D := [3]) o3 k4 (zak v3' (by decide)) (by decide)⟩, zah K3 k4 hw⟩
 | some x =>
  obtain ⟨g, o, rfl, hat⟩ := hx
  have hpy : ∃ q, py = .pointer q := by
   cases yo with
   | none => exact ⟨_, hy⟩
   | some y => obtain ⟨_, _, h, _⟩ := hy; exact ⟨_, h⟩
  obtain ⟨q, rfl⟩ := hpy
  refine zaa (args := [.pointer (some ⟨g, o, none⟩), .pointer q, .pointer (some ⟨b, 0, none⟩)]) Tryz.func224 rfl NL ?_; refine GW ?_
  refine KGO ?_
  refine Draw.heldEnd (fun u => Kp w0 u n_ ∧ VarK u b 44 [.int .i64 d, .slice a l.length c]) (fun _ => true) (by simp) (by decide +kernel) (by decide +kernel) ⟨hk.drew, hv.keep0 (Kp.refl w n_).drew⟩ ?_
  refine KGO ?_
  refine Held.one (by rfl) (fun u hu => hu.2.at 1 _ rfl) ?_
  refine KGO ?_
  refine Held.one (by rfl) (fun u hu => zaK (hat 0 _ rfl) hu.1) ?_
  refine KGO ?_
  have kd := (Kp.refl w n_).drew
  have hbl := hv.lt
  refine RunV.of (bs1I x _) ?_
  obtain ⟨a_b2, v_b2, k_w2, z_w2, r_w2⟩ := new5 w.drew 3 (inC x)
  generalize w.drew.alloc (.cells (List.toArray (inC x)) 3) = w2 at *
  generalize hs_b2 : w.drew.heap.size = b2 at *
  have v2 := (hv.keep0 kd).keep0 k_w2
  have o2 := zac (zac ho kd) k_w2
  have K2 := (hk.trans0 kd).trans0 k_w2
  have z2 := (kd.trans0 k_w2).size
  refine ⟨⟨K2, v2⟩, ?_⟩
  refine KGO ?_
  refine tyI.app1 x o2 (by omega) a_b2 (by omega) (by omega) fun v3 w3 o3 k3 => ?_
  obtain ⟨a3, c3, rfl⟩ := zab o3
  have v3' := v2.keep k3 (zaf o2 v2 (by decide))
  have K3 := zaU o2 k3 K2 hw
  refine ⟨⟨K3, v3'⟩, ?_⟩
  refine KGO ?_
  refine Store.cellK (i := 1) v3' (by simp) (by rfl) ⟨rfl, by simp, by simp⟩ fun w4 v4 k4 => ?_
  refine GW ?_
  exact ⟨rfl, ⟨_, v4, zag (D := [3]) o3 k4 (zak v3' (by decide)) (by decide)⟩, zah K3 k4 hw⟩
theorem zpa (x y : Pr) (hx : RowI w x.h.v x.p.places) (hy : RowI w y.h.v y.p.places) (hcx : CapK x.h.v) (hcy : CapK y.h.v) (hlx : x.p.places.length ≤ 1000000000000) (hly : y.p.places.length ≤ 1000000000000) :
  Calls Tryz.prog 177 #[.agg (prC x).toArray, .agg (prC y).toArray] w fun e w' => ∃ r : Pr, e = .returned (.agg (prC r).toArray) ∧ r.p = ⟨x.p.doc, unI x.p.places y.p.places⟩ ∧ OwnI w' w.heap.size r.h.v r.p.places ∧ Kp w w' n_ := by
 refine zaa (args := [.agg (prC x).toArray, .agg (prC y).toArray]) Tryz.func177 rfl NL ?_; refine GW ?_
 obtain ⟨a_b1, v_b1, k_w1, z_w1, r_w1⟩ := new5 w 44 (prC x)
 generalize w.alloc (.cells (List.toArray (prC x)) 44) = w1 at *
 generalize hs_b1 : w.heap.size = b1 at *
 obtain ⟨a_b2, v_b2, k_w2, z_w2, r_w2⟩ := new5 w1 44 (prC y)
 generalize w1.alloc (.cells (List.toArray (prC y)) 44) = w2 at *
 generalize hs_b2 : w1.heap.size = b2 at *
 obtain ⟨a_b3, v_b3, k_w3, z_w3, r_w3⟩ := new5 w2 44 ([.int .i64 0, .slice none 0 0])
 generalize w2.alloc (.cells (List.toArray ([.int .i64 0, .slice none 0 0])) 44) = w3 at *
 generalize hs_b3 : w2.heap.size = b3 at *
 have K3 : Kp w w3 n_ := (k_w1.trans0 k_w2).trans0 k_w3
 have v1 := (v_b1.keep0 k_w2).keep0 k_w3
 have v2 := v_b2.keep0 k_w3
 have a1 := v1.at
 have a2 := v2.at
 clear a_b1 v_b1 a_b2 v_b2
 refine KGO ?_
 refine RunV.of (zfq x.p.doc _) ?_
 refine KGO ?_
 have v5 := VarK.new w3 44 [.int .i64 x.p.doc, .slice none 0 0]
 refine Store.fresh (vs := [.int .i64 x.p.doc, .slice none 0 0]) (by rfl) rfl (zax (by rfl)) ?_
 obtain ⟨a_b5, k_w4, z_w4⟩ := new3 w3 44 ([.int .i64 x.p.doc, .slice none 0 0])
 generalize w3.alloc (.cells (List.toArray ([.int .i64 x.p.doc, .slice none 0 0])) 44) = w4 at *
 generalize hs_b5 : w3.heap.size = b5 at *
 have a1 := zam a1 k_w4
 have a2 := zam a2 k_w4
 have K4 := K3.trans0 k_w4
 refine KGO ?_
 conv => arg 3; simp [ev, upd]
 rw [RowO.len hx, RowO.len hy]
 have hb5 : w3.heap.size = b5 := hs_b5
 have hcall := zoY (w0 := w3) (w := w4) (p0 := .pointer (some ⟨b5, 0, none⟩)) (va := .slice x.h.a x.p.places.length x.h.c) (vb := .slice y.h.a y.p.places.length y.h.c) (g1 := 209) (g2 := 224) x.p.places y.p.places cmpI
  (fun d u => ∃ vp, VarK u b5 44 [.int .i64 x.p.doc, vp] ∧ OwnI u b5 vp (d.map fstO) ∧ Kp w3 u n_)
  (by have h := hx.keep K3; rw [show x.h.v = .slice x.h.a x.p.places.length x.h.c from by rw [← RowO.len hx]] at h; exact h) (by have h := hy.keep K3; rw [show y.h.v = .slice y.h.a y.p.places.length y.h.c from by rw [← RowO.len hy]] at h; exact h)
  (by rw [← RowO.len hx]; exact hcx) (by rw [← RowO.len hy]; exact hcy) hlx hly (fun _ _ => rfl) (fun _ _ => rfl) (fun d u h => h.choose_spec.2.2)
  (fun d u u' ⟨vp, h1, h2, h3⟩ k => ⟨vp, h1.keep0 k, zac h2 k, h3.trans0 k⟩) (fun a b u k => zjo a b)
  (fun d rest xo yo px py u hd hk hpx hpy ⟨vp, h1, h2, h3⟩ => by
   have hsp := zaO cmpI x.p.places y.p.places
   rw [hd] at hsp
   have hne := (hsp.1 (xo, yo) (by simp)).1
   have hln := hsp.2
   rw [List.length_append, List.length_cons] at hln
   refine (zru (w := u) (w0 := w3) x.p.doc (d.map fstO) h1 h2 (by omega) h3 (by rw [List.length_map]; omega) hpx hpy hne).mono fun e u' h => ?_
   obtain ⟨rfl, ⟨vp', h4, h5⟩, h6⟩ := h
   exact ⟨rfl, vp', h4, by rw [List.map_append]; exact h5, h6⟩) ⟨_, v5, World.ownsRow_nil _ _ _ _, k_w4⟩
 refine CallS.of (Tryz.call223 _ _) hcall ?_
 rintro e w5 ⟨rfl, vp, h5, o5, k5⟩
 obtain ⟨ap, cp, rfl⟩ := zab o5
 have K5 := K3.trans0 k5
 have a5 := h5.at
 have hu : (bothL cmpI x.p.places y.p.places).map fstO = unI x.p.places y.p.places := rfl
 rw [hu] at a5 o5 h5
 have v_b3 := v_b3.keep0 k5
 have z3 := K3.size
 clear hcall v1 v2 a1 a2 v5
 refine RT ?_
 refine KGO ?_
 refine SVK (prC ⟨⟨x.p.doc, unI x.p.places y.p.places⟩, ⟨ap, (unI x.p.places y.p.places).length, cp⟩⟩) v_b3 fun w6 v6 k6 => ?_
 have K6 : Kp w w6 n_ := zah K5 k6 (by omega)
 have o6 := zag (D := [3]) o5 k6 (zak v_b3 (by decide)) (by decide)
 have a6 := v6.at
 have q6 := Kp.refl w6 n_
 refine KGO ?_
 refine GW ?_
 exact ⟨⟨⟨x.p.doc, unI x.p.places y.p.places⟩, ⟨ap, (unI x.p.places y.p.places).length, cp⟩⟩, rfl, rfl, zaz o6 (by omega), K6⟩
end
end Go.Proofs.YtennokckmjcefaaGreatDoor
