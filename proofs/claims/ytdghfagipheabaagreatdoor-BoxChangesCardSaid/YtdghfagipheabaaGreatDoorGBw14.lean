/- Helper text of this claim: Bw14, Bw15, Bw16, Bl1, Bl2: lemmas and contracts that the proved statement rests on; no conditions of its own. -/
import Derived.Test.YtdghfagipheabaaGreatDoorGBx9
import Derived.Shelf.Strings.SplitCore
import Derived.Shelf.Strings.Search3
import Derived.Shelf.Strings.Count
import Derived.Test.YtdghfagipheabaaGreatDoorGOpn
-- alias Tryz
namespace Go.Proofs.YtdghfagipheabaaGreatDoor
open Go.RowKit Go.Pw Go.Vc Go.Cs Go.Lib
set_option linter.unusedVariables false
set_option maxRecDepth 100000
def ren221 : Go.Shelf.Ren := ⟨fun | 138 => 76 | 143 => 77 | 195 => 85 | 197 => 86 | 217 => 95 | 218 => 87 | 219 => 88 | 221 => 63 | 224 => 97 | 225 => 96 | 260 => 94 | 266 => 101 | 267 => 98 | 268 => 75 | 314 => 102 | n => n, fun | 0 => 0 | 3 => 3 | 4 => 4 | 5 => 5 | 9 => 9 | 21 => 21 | 31 => 44 | 46 => 85 | 51 => 107 | 105 => 109 | 119 => 97 | 138 => 99 | 139 => 100 | 146 => 119 | n => n, fun | 1 => 4 | 3 => 2 | 4 => 3 | n => n⟩
theorem lays221 : Go.Proofs.Lays.n221 Tryz.prog ren221 := {
  mixed := by kernel_rfl
  f138 := Tryz.func76.trans (congrArg some (by kernel_rfl))
  f143 := Tryz.func77.trans (congrArg some (by kernel_rfl))
  f195 := Tryz.func85.trans (congrArg some (by kernel_rfl))
  f197 := Tryz.func86.trans (congrArg some (by kernel_rfl))
  f217 := Tryz.func95.trans (congrArg some (by kernel_rfl))
  f218 := Tryz.func87.trans (congrArg some (by kernel_rfl))
  f219 := Tryz.func88.trans (congrArg some (by kernel_rfl))
  f221 := Tryz.func63.trans (congrArg some (by kernel_rfl))
  f224 := Tryz.func97.trans (congrArg some (by kernel_rfl))
  f225 := Tryz.func96.trans (congrArg some (by kernel_rfl))
  f260 := Tryz.func94.trans (congrArg some (by kernel_rfl))
  f266 := Tryz.func101.trans (congrArg some (by kernel_rfl))
  f267 := Tryz.func98.trans (congrArg some (by kernel_rfl))
  f268 := Tryz.func75.trans (congrArg some (by kernel_rfl))
  f314 := Tryz.func102.trans (congrArg some (by kernel_rfl))
  t0 := Tryz.underlying0
  a0 := Tryz.isAgg0
  z0 := Tryz.sizeOf0
  v0 := Tryz.zeroValue0
  t3 := Tryz.underlying3
  a3 := Tryz.isAgg3
  z3 := Tryz.sizeOf3
  v3 := Tryz.zeroValue3
  t4 := Tryz.underlying4
  a4 := Tryz.isAgg4
  z4 := Tryz.sizeOf4
  v4 := Tryz.zeroValue4
  t5 := Tryz.underlying5
  a5 := Tryz.isAgg5
  z5 := Tryz.sizeOf5
  v5 := Tryz.zeroValue5
  t9 := Tryz.underlying9
  a9 := Tryz.isAgg9
  z9 := Tryz.sizeOf9
  v9 := Tryz.zeroValue9
  t21 := Tryz.underlying21
  a21 := Tryz.isAgg21
  z21 := Tryz.sizeOf21
  v21 := Tryz.zeroValue21
  t31 := Tryz.underlying44
  a31 := Tryz.isAgg44
  z31 := Tryz.sizeOf44
  v31 := Tryz.zeroValue44
  t46 := Tryz.underlying85
  a46 := Tryz.isAgg85
  z46 := Tryz.sizeOf85
  v46 := Tryz.zeroValue85
  t51 := Tryz.underlying107
  a51 := Tryz.isAgg107
  z51 := Tryz.sizeOf107
  v51 := Tryz.zeroValue107
  t105 := Tryz.underlying109
  a105 := Tryz.isAgg109
  z105 := Tryz.sizeOf109
  v105 := Tryz.zeroValue109
  t119 := Tryz.underlying97
  a119 := Tryz.isAgg97
  z119 := Tryz.sizeOf97
  t138 := Tryz.underlying99
  a138 := Tryz.isAgg99
  z138 := Tryz.sizeOf99
  v138 := Tryz.zeroValue99
  t139 := Tryz.underlying100
  a139 := Tryz.isAgg100
  z139 := Tryz.sizeOf100
  v139 := Tryz.zeroValue100
  t146 := Tryz.underlying119
  a146 := Tryz.isAgg119
  z146 := Tryz.sizeOf119
  v146 := Tryz.zeroValue119
  g1 := by kernel_rfl
  g3 := by kernel_rfl
  g4 := by kernel_rfl }

/-- Texts, a row of them. -/
def textCells (s : List UInt8) : List Value := [.string (str s)]
theorem textLen (s : List UInt8) : (textCells s).length = 1 := rfl
section
variable {w w' : World}
theorem pieces_eq (s : List UInt8) : (splitB ⟨#[47]⟩ 0 (countB (str s) ⟨#[47]⟩) (str s)).map L = splitS s := by
  have h := splitB_data ⟨#[47]⟩ 0 (countB (str s) ⟨#[47]⟩) (str s)
  have hc : countB (str s) ⟨#[47]⟩ = s.count 47 := count_one 47 s
  rw [hc] at h ⊢
  rw [split_eq]
  exact h
theorem cells_at (ps : List ByteArray) (N : Nat) (w : World) (T : TypeId) : At (w.alloc (.cells (cellsOf ps N) T)) w.heap.size 0 ((ps.map L).flatMap textCells) := by
  have h := at_fresh w T (ps.map Value.string ++ List.replicate (N - ps.length) (Value.string ByteArray.empty))
  have e : (ps.map L).flatMap textCells = ps.map Value.string := by
    rw [List.flatMap_map]
    induction ps with
    | nil => rfl
    | cons x r ih => rw [List.flatMap_cons, List.map_cons, ih (at_fresh _ _ _)]; rfl
  rw [e]
  intro i v hi
  refine h i v ?_
  rw [List.getElem?_append_left (List.getElem?_eq_some_iff.1 hi).1]; exact hi
theorem st_Split (s : List UInt8) (hs : s.length ≤ 1000000000) : Calls Tryz.prog 35 #[.string (str s), .string ⟨#[47]⟩] w fun e w' => ∃ g cap, e = .returned (.slice (some ⟨g, 0, none⟩) (splitS s).length cap) ∧ g < w'.heap.size ∧ At w' g 0 ((splitS s).flatMap textCells) ∧ Keeps w w' none_ := by
  have hsz : (str s).size = s.length := str_size s
  have hcc : countB (str s) ⟨#[47]⟩ = s.count 47 := count_one 47 s
  have hcl : s.count 47 ≤ s.length := List.count_le_length
  have hN : ((s.count 47 + 1 : Nat) : Int) = min (if (-1 : Int) < 0 then (countB (str s) ⟨#[47]⟩ : Int) + 1 else -1) (((str s).size : Int) + 1) := by
    rw [if_pos (by decide), hcc, hsz]; omega
  have core := Any.strings_genSplit_core lays221 (by kernel_rfl) (str s) ⟨#[47]⟩ 0 (-1) (s.count 47 + 1) w (by rw [hsz]; omega) (by decide) (by decide)
    (fun x c hx => (Any.strings_Index_one { lays221 with } x 47 _).mono fun e w' ⟨h1, h2⟩ => ⟨by rw [h1]; exact congrArg (fun z => Ending.returned (Value.int .i64 z)) (index_one x.data.toList 47).symm, h2⟩)
    ((Any.strings_Count_one { lays221 with } (str s) 47 w).mono fun e w' ⟨h1, h2⟩ => ⟨by rw [h1]; exact congrArg (fun z : Nat => Ending.returned (Value.int .i64 z)) (count_one 47 _).symm, h2⟩)
    (by decide) (by decide) hN
  have hps := pieces_eq s
  rw [hcc] at hps
  have hlen : (splitB ⟨#[47]⟩ 0 (s.count 47) (str s)).length = (splitS s).length := by rw [← hps, List.length_map]
  refine calls_of_vc (args := [.string (str s), .string ⟨#[47]⟩]) Tryz.func35 rfl (Nat.le_of_ble_eq_true rfl) ?_; refine Sat.go hmix ?_; conv => whnf
  refine CallS.of (Tryz.call63 _ _) core ?_
  rintro e w1 ⟨rfl, rfl⟩
  refine ⟨_, rfl, ?_⟩; (first | refine Then.go hmix ?_ | refine Sat.go hmix ?_ | refine ResK.go ?_ | skip); conv => whnf
  refine ⟨w.heap.size, s.count 47 + 1, ?_, ?_, ?_, (Keeps.refl w none_).alloc _⟩
  · rw [← hlen]; rfl
  · simp
  · rw [← hps]
    exact cells_at _ _ _ _
end
end Go.Proofs.YtdghfagipheabaaGreatDoor

-- alias Tryz
namespace Go.Proofs.YtdghfagipheabaaGreatDoor
open Go.RowKit Go.Pw Go.Vc Go.Cs Go.Lib
set_option linter.unusedVariables false
set_option maxRecDepth 100000
theorem fullN_len {l : List Bx} (h : ∀ b ∈ l, b.name.length ≤ 100) : ∀ (n : Nat) (id : Int), (fullN l n id).length ≤ 101 * n
  | 0, id => by simp [fullN]
  | n + 1, id => by
    rw [fullN]
    cases hb : boxOf l id with
    | none => simp
    | some b =>
      obtain ⟨hm, rfl⟩ := boxOf_mem hb
      have h1 := h b hm
      have h2 := fullN_len h n b.up
      dsimp only
      split
      · rw [List.length_append, List.length_cons]; omega
      · omega
section
variable {w w' : World}
theorem bx_FullR {v : Value} (l : List Bx) (hr1 : rightL l = true) (hl : l.length ≤ 1000) (hs : SmallB l) : ∀ (d : Nat) (hd8 : d ≤ 8) (id : Int) (w : World), RowB w v l → BEnv w → Dep l d id →
    Calls Tryz.prog 15 #[v, .int .i64 id] w fun e w' => e = .returned (.string (str (fullN l d id))) ∧ Keeps w w' none_ := by
  intro d
  have hR := (rightL_iff l).1 hr1
  have hnl : ∀ b ∈ l, b.name.length ≤ 100 := fun b hb => ((named_iff _).1 (hR.named b hb)).2.1
  induction d with
  | zero =>
    intro hd8 id w hv hE hd
    have hd : id = 0 := hd
    have hv0 := hv
    obtain ⟨a, cap, rfl, hr⟩ := hv
    refine calls_of_vc (args := [.slice a l.length cap, .int .i64 id]) Tryz.func15 rfl (Nat.le_of_ble_eq_true rfl) ?_; refine Sat.go hmix ?_; conv => whnf
    refine CallS.of (Tryz.call22 _ _) (bx_search (w := w) l id hv0 (by omega)) ?_
    rintro e w1 ⟨k, q, rfl, hkl, hasc, k1⟩
    obtain ⟨rfl, rfl⟩ := hasc hR.asc
    have hno : hasId l id = false := by
      rw [Bool.eq_false_iff]
      exact fun h => by
        obtain ⟨c, hc, he⟩ := (hasId_iff _ _).1 h
        have := (hR.pos c hc).1
        omega
    rw [hno]
    refine ⟨_, rfl, ?_⟩; (first | refine Then.go hmix ?_ | refine Sat.go hmix ?_ | refine ResK.go ?_ | skip); conv => whnf
    refine KGO ?_
    refine CallS.of (Tryz.call16 _ _) (bx_Right (w := w1) l (hv0.keep k1) hl hs (hE.F.keep k1) (hE.T.keep k1) (hE.R.keep k1)) ?_
    rintro e w2 ⟨rfl, k2⟩
    rw [hr1]
    refine ⟨_, rfl, ?_⟩; (first | refine Then.go hmix ?_ | refine Sat.go hmix ?_ | refine ResK.go ?_ | skip); conv => whnf
    refine KGO ?_
    exact ⟨rfl, k1.trans0 k2⟩
  | succ d ih =>
    intro hd8 id w hv hE hd
    obtain ⟨h0, u, hu, hdu⟩ := hd
    have hv0 := hv
    obtain ⟨a, cap, rfl, hr⟩ := hv
    refine calls_of_vc (args := [.slice a l.length cap, .int .i64 id]) Tryz.func15 rfl (Nat.le_of_ble_eq_true rfl) ?_; refine Sat.go hmix ?_; conv => whnf
    refine CallS.of (Tryz.call22 _ _) (bx_search (w := w) l id hv0 (by omega)) ?_
    rintro e w1 ⟨k, q, rfl, hkl, hasc, k1⟩
    obtain ⟨rfl, rfl⟩ := hasc hR.asc
    cases hb : boxOf l id with
    | none => rw [boxOf_up, hb] at hu; cases hu
    | some b =>
      obtain ⟨hm, rfl⟩ := boxOf_mem hb
      obtain rfl : b.up = u := by rw [boxOf_up, hb] at hu; exact Option.some.inj hu
      rw [(hasId_iff l b.id).2 ⟨b, hm, rfl⟩]
      obtain ⟨hk1, hk2⟩ := idx_at hR.asc hm
      generalize idxL l b.id = k at *
      refine ⟨_, rfl, ?_⟩; (first | refine Then.go hmix ?_ | refine Sat.go hmix ?_ | refine ResK.go ?_ | skip); conv => whnf
      refine KGO ?_
      refine CallS.of (Tryz.call16 _ _) (bx_Right (w := w1) l (hv0.keep k1) hl hs (hE.F.keep k1) (hE.T.keep k1) (hE.R.keep k1)) ?_
      rintro e w2 ⟨rfl, k2⟩
      have K2 := k1.trans0 k2
      rw [hr1]
      refine ⟨_, rfl, ?_⟩; (first | refine Then.go hmix ?_ | refine Sat.go hmix ?_ | refine ResK.go ?_ | skip); conv => whnf
      obtain ⟨gb, o, rfl, hgb, hat⟩ := hr (by omega)
      refine KGO ?_
      rw [hk2]
      refine CallS.of (Tryz.call15 _ _) (ih (by omega) b.up w2 (hv0.keep K2) (hE.keep K2) hdu) ?_
      rintro e w3 ⟨rfl, k3⟩
      have K3 := K2.trans0 k3
      have hfl := fullN_len hnl d b.up
      have hbl := hnl b hm
      rw [fullN, hb]
      dsimp only
      generalize fullN l d b.up = f at *
      refine ⟨_, rfl, ?_⟩; (first | refine Then.go hmix ?_ | refine Sat.go hmix ?_ | refine ResK.go ?_ | skip); conv => whnf
      by_cases hf : f = []
      · have hfd : decide (str f = (⟨#[]⟩ : ByteArray)) = true := by rw [hf]; rfl
        refine KGO ?_
        rw [hk2, if_neg (fun h => h hf)]
        exact ⟨rfl, K3⟩
      · have hfd : decide (str f = (⟨#[]⟩ : ByteArray)) = false := decide_eq_false fun h => hf (by have := congrArg L h; rwa [L_str] at this)
        refine KGO ?_
        refine RunV.cat (by rw [str_size]; show _ + 1 ≤ _; omega) ?_
        rw [show str f ++ ⟨#[47]⟩ = str (f ++ [47]) from str_append f [47]]
        refine KGO ?_
        rw [hk2]
        refine RunV.cat (by rw [str_size, str_size, List.length_append, List.length_singleton]; omega) ?_
        refine KGO ?_
        rw [if_pos hf]
        refine ⟨?_, K3⟩
        rw [show f ++ 47 :: b.name = (f ++ [47]) ++ b.name by simp, str_append]
theorem bx_Full {v : Value} (l : List Bx) (id : Int) (hl : l.length ≤ 1000) (hs : SmallB l) (hv : RowB w v l) (hE : BEnv w) :
    Calls Tryz.prog 15 #[v, .int .i64 id] w fun e w' => e = .returned (.string (str (fullL l id))) ∧ Keeps w w' none_ := by
  by_cases h1 : rightL l = true
  · have hR := (rightL_iff l).1 h1
    by_cases h2 : hasId l id = true
    · obtain ⟨b, hm, rfl⟩ := (hasId_iff _ _).1 h2
      obtain ⟨hd, hd8⟩ := dep_up hR (.inr ⟨b, hm, rfl⟩)
      refine (bx_FullR l h1 hl hs _ hd8 b.id w hv hE hd).mono fun e w' ⟨h, k⟩ => ⟨?_, k⟩
      rw [h, fullL, if_pos h1, full_join hR, full_join hR, names_more hR _ _ ((dep_iff _ _ _ _).2 ⟨hd, Nat.le_refl _⟩) _ hd.len]
    · have hno : hasId l id = false := by simpa using h2
      have hv0 := hv
      obtain ⟨a, cap, rfl, hr⟩ := hv
      refine calls_of_vc (args := [.slice a l.length cap, .int .i64 id]) Tryz.func15 rfl (Nat.le_of_ble_eq_true rfl) ?_; refine Sat.go hmix ?_; conv => whnf
      refine CallS.of (Tryz.call22 _ _) (bx_search (w := w) l id hv0 (by omega)) ?_
      rintro e w1 ⟨k, q, rfl, hkl, hasc, k1⟩
      obtain ⟨rfl, rfl⟩ := hasc hR.asc
      rw [hno]
      refine ⟨_, rfl, ?_⟩; (first | refine Then.go hmix ?_ | refine Sat.go hmix ?_ | refine ResK.go ?_ | skip); conv => whnf
      refine KGO ?_
      refine CallS.of (Tryz.call16 _ _) (bx_Right (w := w1) l (hv0.keep k1) hl hs (hE.F.keep k1) (hE.T.keep k1) (hE.R.keep k1)) ?_
      rintro e w2 ⟨rfl, k2⟩
      rw [h1]
      refine ⟨_, rfl, ?_⟩; (first | refine Then.go hmix ?_ | refine Sat.go hmix ?_ | refine ResK.go ?_ | skip); conv => whnf
      refine KGO ?_
      refine ⟨?_, k1.trans0 k2⟩
      rw [fullL, if_pos h1, full_none hR fun b hb e => h2 ((hasId_iff _ _).2 ⟨b, hb, e⟩)]; rfl
  · have hv0 := hv
    obtain ⟨a, cap, rfl, hr⟩ := hv
    refine calls_of_vc (args := [.slice a l.length cap, .int .i64 id]) Tryz.func15 rfl (Nat.le_of_ble_eq_true rfl) ?_; refine Sat.go hmix ?_; conv => whnf
    refine CallS.of (Tryz.call22 _ _) (bx_search (w := w) l id hv0 (by omega)) ?_
    rintro e w1 ⟨k, q, rfl, hkl, hasc, k1⟩
    refine ⟨_, rfl, ?_⟩; (first | refine Then.go hmix ?_ | refine Sat.go hmix ?_ | refine ResK.go ?_ | skip); conv => whnf
    refine KGO ?_
    refine CallS.of (Tryz.call16 _ _) (bx_Right (w := w1) l (hv0.keep k1) hl hs (hE.F.keep k1) (hE.T.keep k1) (hE.R.keep k1)) ?_
    rintro e w2 ⟨rfl, k2⟩
    rw [show rightL l = false by simpa using h1]
    refine ⟨_, rfl, ?_⟩; (first | refine Then.go hmix ?_ | refine Sat.go hmix ?_ | refine ResK.go ?_ | skip); conv => whnf
    refine KGO ?_
    exact ⟨by rw [fullL, if_neg h1]; rfl, k1.trans0 k2⟩
end
end Go.Proofs.YtdghfagipheabaaGreatDoor

-- alias Tryz
namespace Go.Proofs.YtdghfagipheabaaGreatDoor
open Go.RowKit Go.Pw Go.Vc Go.Cs Go.Lib
set_option linter.unusedVariables false
set_option maxRecDepth 100000
theorem kid_take {l : List Bx} (h : l.Pairwise fun a b => ¬ (a.up = b.up ∧ foldL a.name = foldL b.name)) (i : Nat) (hi : i < l.length) : kid (l.take i) l[i].up (foldL l[i].name) = none := by
  rw [kid_none]
  intro c hc e
  obtain ⟨j, hj, rfl⟩ := List.getElem_of_mem hc
  rw [List.getElem_take] at e
  have hj2 : j < i := by rw [List.length_take] at hj; omega
  exact List.pairwise_iff_getElem.1 h j i (by omega) hi hj2 e
theorem split_len : ∀ s : List UInt8, (splitS s).length ≤ s.length + 1
  | [] => Nat.le_refl _
  | b :: t => by
    have h := split_len t
    rw [splitS, List.length_cons]
    split
    · rw [List.length_cons]; omega
    · cases hs : splitS t with
      | nil => simp
      | cons x r => rw [hs] at h; simp only [List.length_cons] at h ⊢; omega
theorem walk_cons (l : List Bx) (id : Int) (x : List UInt8) (r : List (List UInt8)) : walkP l id (x :: r) = match kid l id x with | none => none | some j => walkP l j r := rfl
section
variable {w w' : World}
set_option maxHeartbeats 4000000 in
theorem bx_Path {v : Value} (l : List Bx) (p : List UInt8) (hv : RowB w v l) (hl : l.length ≤ 1000) (hs : SmallB l) (hp : p.length ≤ 1000000) (hE : BEnv w) :
    Calls Tryz.prog 13 #[v, .string (str p)] w fun e w' => e = .returned (optV (pathL l p)) ∧ Keeps w w' none_ := by
  have hv0 := hv
  obtain ⟨a, cap, rfl, hr⟩ := hv
  refine calls_of_vc (args := [.slice a l.length cap, .string (str p)]) Tryz.func13 rfl (Nat.le_of_ble_eq_true rfl) ?_; refine Sat.go hmix ?_; conv => whnf
  refine CallS.of (Tryz.call16 _ _) (bx_Right (w := w) l hv0 hl hs hE.F hE.T hE.R) ?_
  rintro e w1 ⟨rfl, k1⟩
  refine ⟨_, rfl, ?_⟩; (first | refine Then.go hmix ?_ | refine Sat.go hmix ?_ | refine ResK.go ?_ | skip); conv => whnf
  by_cases h1 : rightL l = true
  rotate_left
  · rw [show rightL l = false by simpa using h1]
    refine KGO ?_
    exact ⟨by rw [pathL, if_neg h1]; rfl, k1⟩
  rw [pathL, if_pos h1, h1]
  have hR := (rightL_iff l).1 h1
  refine KGO ?_
  refine RunV.makeMap rfl ?_
  have m2 : GMap encLoc (w1.alloc (.map #[] 0)) w1.heap.size ([] : GM (Int × List UInt8)) := GMap.new w1
  have k2 : Keeps w1 (w1.alloc (.map #[] 0)) none_ := (Keeps.refl _ _).alloc _
  have z2 : (w1.alloc (.map #[] 0)).heap.size = w1.heap.size + 1 := by simp
  have hmb : w.heap.size ≤ w1.heap.size := k1.size
  generalize hb2 : w1.heap.size = b2 at *
  generalize w1.alloc (.map #[] 0) = w2 at *
  have K2 := k1.trans0 k2
  clear k2
  refine KGO ?_
  refine Loop.intro (ι := Nat) (fun i => [(0, .slice a l.length cap), (1, .string (str p)), (6, .map (some b2)), (18, .slice a l.length cap), (19, .int .i64 (l.length : Nat)), (20, .int .i64 (i : Nat))])
    (fun i wr => Keeps w wr none_ ∧ i ≤ l.length ∧ GMap encLoc wr b2 (locM (l.take i))) (fun i => l.length - i) 0 ⟨rfl, rfl, rfl, rfl, rfl, rfl, trivial⟩ ⟨K2, Nat.zero_le _, m2⟩ ?_
  rintro i gg wr ⟨hK, hi, hm⟩
  (first | refine Then.go hmix ?_ | refine Sat.go hmix ?_ | refine ResK.go ?_ | skip); conv => whnf
  by_cases hlt : i < l.length
  · obtain ⟨gb, o, rfl, hgb, hat⟩ := hr (by omega)
    have htk : l.take (i + 1) = l.take i ++ [l[i]] := List.take_succ_eq_append_getElem hlt
    have hkn := kid_take hR.uniq i hlt
    have hbs := hs l[i] (List.getElem_mem hlt)
    refine KGO ?_
    generalize l[i] = b at *
    have hlm := hm.lt
    refine Store.fresh (vs := boxCells b) (by rfl) rfl (flat_of (by rfl)) ?_
    have a_b8 := at_fresh wr 39 (boxCells b)
    have k_w4 : Keeps wr (wr.alloc (.cells (List.toArray (boxCells b)) 39)) none_ := (Keeps.refl _ _).alloc _
    have z_w4 : (wr.alloc (.cells (List.toArray (boxCells b)) 39)).heap.size = wr.heap.size + 1 := by simp
    generalize wr.alloc (.cells (List.toArray (boxCells b)) 39) = w4 at *
    generalize hs_b8 : wr.heap.size = b8 at *
    have K4 := hK.trans0 k_w4
    have hm := hm.keep k_w4 fun h => h
    refine KGO ?_
    refine Draw.ways (fun u => At u b8 0 (boxCells b) ∧ Keeps w4 u (one_ b2)) (fun _ => true) [[0, 1, 2, 3, 4, 5, 6, 7, 8, 9]] (by decide +kernel) ⟨a_b8, (Keeps.refl _ _).drew⟩ ?_
    intro L' hL'
    simp only [List.mem_cons, List.not_mem_nil, or_false] at hL'
    subst hL'
    refine KGO ?_
    refine Held.one (by rfl) (fun u hu => hu.1 1 _ rfl) ?_
    refine KGO ?_
    refine Held.one (by rfl) (fun u hu => hu.1 2 _ rfl) ?_
    refine KGO ?_
    refine CallS.of (Tryz.call34 _ _) (fold_Fold (w := w4.drew) (str b.name) (hE.F.keep K4.drew) (by rw [str_size]; omega)) ?_
    rintro e w5 ⟨rfl, k5⟩
    rw [L_str]
    have J5 : Keeps w4 w5 none_ := (Keeps.refl w4 none_).drew.trans0 k5
    refine ⟨_, rfl, ?_⟩; (first | refine Then.go hmix ?_ | refine Sat.go hmix ?_ | refine ResK.go ?_ | skip); conv => whnf
    refine ⟨⟨at_mono a_b8 J5, J5.mono fun _ _ h => h.elim⟩, ?_⟩
    refine KGO ?_
    refine RunV.of (build_loc _ _ _) ?_
    refine KGO ?_
    refine Held.one (by rfl) (fun u hu => hu.1 0 _ rfl) ?_
    refine KGO ?_
    refine RunU.updG keyLoc Tryz.underlying54 (hm.keep J5 fun h => h) (b.up, foldL b.name) rfl _ fun u2 g2 ku2 => ?_
    have n2 : (locM (l.take i)).get (b.up, foldL b.name) = none := by rw [locM_get, hkn]; rfl
    rw [GM.put_new n2] at g2
    have e2 : locM (l.take (i + 1)) = locM (l.take i) ++ [((b.up, foldL b.name), .int .i64 b.id)] := by rw [htk]; unfold locM; rw [List.map_append]; rfl
    refine ⟨⟨at_keepc (at_mono a_b8 J5) ku2 (fun e => by have e : b8 = b2 := e; omega), (J5.mono fun _ _ h => h.elim).trans ku2 fun q _ e => e⟩, ?_⟩
    refine KGO ?_
    exact ⟨i + 1, ⟨rfl, rfl, rfl, rfl, rfl, v_int (by simp), trivial⟩, ⟨(K4.trans0 J5).trans ku2 fun q hq e => by have e : q = b2 := e; omega, by omega, by rw [e2]; exact g2⟩, by dsimp only; omega⟩
  · have hm : GMap encLoc wr b2 (locM l) := by rwa [List.take_of_length_le (by omega)] at hm
    refine KGO ?_
    refine CallS.of (Tryz.call34 _ _) (fold_Fold (w := wr) (str p) (hE.F.keep hK) (by rw [str_size]; omega)) ?_
    rintro e w5 ⟨rfl, k5⟩
    rw [L_str]
    have K5 := hK.trans0 k5
    refine ⟨_, rfl, ?_⟩; (first | refine Then.go hmix ?_ | refine Sat.go hmix ?_ | refine ResK.go ?_ | skip); conv => whnf
    refine KGO ?_
    refine CallS.of (Tryz.call35 _ _) (st_Split (w := w5) (foldL p) (by rw [fold_len]; omega)) ?_
    rintro e w6 ⟨g6, c6, rfl, hg6, ha6, k6⟩
    have K6 := K5.trans0 k6
    have hm := hm.keep (k5.trans0 k6) fun h => h
    refine ⟨_, rfl, ?_⟩; (first | refine Then.go hmix ?_ | refine Sat.go hmix ?_ | refine ResK.go ?_ | skip); conv => whnf
    refine KGO ?_
    have hpl := split_len (foldL p)
    rw [fold_len] at hpl
    generalize splitS (foldL p) = ps at *
    refine Loop.intro (ι := Nat × Int) (fun q => [(6, .map (some b2)), (9, .int .i64 q.2), (36, .slice (some ⟨g6, 0, none⟩) ps.length c6), (37, .int .i64 (ps.length : Nat)), (38, .int .i64 (q.1 : Nat))])
      (fun q w7 => Keeps w6 w7 none_ ∧ q.1 ≤ ps.length ∧ walkP l 0 ps = walkP l q.2 (ps.drop q.1)) (fun q => ps.length - q.1) (0, 0) ⟨rfl, rfl, rfl, rfl, rfl, trivial⟩ ⟨Keeps.refl _ _, Nat.zero_le _, rfl⟩ ?_
    rintro ⟨j, id⟩ gg w7 ⟨k7, hj, he⟩
    dsimp only at hj he ⊢
    (first | refine Then.go hmix ?_ | refine Sat.go hmix ?_ | refine ResK.go ?_ | skip); conv => whnf
    by_cases hjt : j < ps.length
    · have ha7 := at_mono ha6 k7
      rw [List.drop_eq_getElem_cons hjt, walk_cons] at he
      have c0 : w7.cell? ⟨g6, 0 + j, none⟩ = some (.string (str ps[j])) := at_row ha7 textLen hjt 0 _ rfl |> fun h => by simpa using h
      generalize ps[j] = x at *
      refine KGO ?_
      refine RunV.of (build_loc _ _ _) ?_
      refine KGO ?_
      refine RunV.lookG2 keyLoc Tryz.underlying54 (Tryz.zeroValue3 _) (hm.keep k7 fun h => h) (id, x) rfl ?_
      rw [locM_get]
      cases hk : kid l id x with
      | none =>
        rw [hk] at he
        dsimp only at he
        refine KGO ?_
        rw [he]
        exact ⟨rfl, K6.trans0 k7⟩
      | some y =>
        rw [hk] at he
        dsimp only at he
        refine KGO ?_
        exact ⟨(j + 1, y), ⟨rfl, rfl, rfl, rfl, v_int (by simp), trivial⟩, ⟨k7, by dsimp only; omega, he⟩, by dsimp only; omega⟩
    · rw [List.drop_eq_nil_of_le (by omega)] at he
      refine KGO ?_
      rw [he]
      exact ⟨rfl, K6.trans0 k7⟩
end
end Go.Proofs.YtdghfagipheabaaGreatDoor

-- alias Tryz
namespace Go.Proofs.YtdghfagipheabaaGreatDoor
open Go.RowKit Go.Pw Go.Vc Go.Cs Go.Lib
set_option linter.unusedVariables false
set_option maxRecDepth 100000
theorem boxFields : ∃ a b c d, (Tryz.prog.fieldsOf 39).toList = [a, b, c, d] ∧ a.name ≠ "_" ∧ b.name ≠ "_" ∧ c.name ≠ "_" ∧ d.name ≠ "_" ∧ a.type = 3 ∧ b.type = 3 ∧ c.type = 9 ∧ d.type = 9 ∧ a.offset = 0 ∧ b.offset = 1 ∧ c.offset = 2 ∧ d.offset = 3 :=
  ⟨_, _, _, _, rfl, by decide, by decide, by decide, by decide, rfl, rfl, rfl, rfl, rfl, rfl, rfl, rfl⟩
theorem eq_box (x y : Bx) (w : World) : (Op.equalIn (9999 + 1) 39 (.agg (boxCells x).toArray) (.agg (boxCells y).toArray)).run Tryz.prog w = .ok (decide (x = y)) w := by
  rw [run_equalIn_agg w 9999 39 _ _ (by rfl) (by kernel_rfl)]
  obtain ⟨a, b, c, d, hf, na, nb, nc, nd, ta, tb, tc, td, oa, ob, oc, od⟩ := boxFields
  rw [hf]
  simp only [Op.eqFields, na, nb, nc, nd, ne_eq, not_false_eq_true, if_true, ta, tb, tc, td, oa, ob, oc, od]
  have p0 : (part 3 (boxCells x).toArray 0).run Tryz.prog w = .ok (.int .i64 x.id) w := by rfl
  have p1 : (part 3 (boxCells x).toArray 1).run Tryz.prog w = .ok (.int .i64 x.up) w := by rfl
  have p2 : (part 9 (boxCells x).toArray 2).run Tryz.prog w = .ok (.string (str x.name)) w := by rfl
  have p3 : (part 9 (boxCells x).toArray 3).run Tryz.prog w = .ok (.string (str x.role)) w := by rfl
  have q0 : (part 3 (boxCells y).toArray 0).run Tryz.prog w = .ok (.int .i64 y.id) w := by rfl
  have q1 : (part 3 (boxCells y).toArray 1).run Tryz.prog w = .ok (.int .i64 y.up) w := by rfl
  have q2 : (part 9 (boxCells y).toArray 2).run Tryz.prog w = .ok (.string (str y.name)) w := by rfl
  have q3 : (part 9 (boxCells y).toArray 3).run Tryz.prog w = .ok (.string (str y.role)) w := by rfl
  have i1 (a b : Int) : (Op.equalIn (9998 + 1) 3 (.int .i64 a) (.int .i64 b)).run Tryz.prog w = .ok (a == b) w := run_equalIn_int w 9998 3 .i64 .i64 a b (by rfl)
  have i2 (a b : ByteArray) : (Op.equalIn (9998 + 1) 9 (.string a) (.string b)).run Tryz.prog w = .ok (a.toList == b.toList) w := run_equalIn_string w 9998 9 a b (by rfl)
  simp only [Sem.run_bind, Sem.run_ite, p0, p1, p2, p3, q0, q1, q2, q3, i1, i2, Result.andThen_ok]
  obtain ⟨x1, x2, x3, x4⟩ := x
  obtain ⟨y1, y2, y3, y4⟩ := y
  dsimp only
  rw [str_beq, str_beq]
  by_cases h1 : x1 = y1 <;> by_cases h2 : x2 = y2 <;> by_cases h3 : x3 = y3 <;> by_cases h4 : x4 = y4 <;> simp [h1, h2, h3, h4]
theorem box_neq (x y : Bx) (a b : Operand) {K : Value → World → Prop} {w : World} (k : K (.bool (!decide (x = y))) w) :
    RunV Tryz.prog (do eqGuard .neq 39 a b (.agg (boxCells x).toArray) (.agg (boxCells y).toArray); binOp .neq 39 (.agg (boxCells x).toArray) (.agg (boxCells y).toArray)) w K := by
  refine RunV.of ?_ k
  rw [Sem.run_bind, run_eqGuard_agg w .neq 39 a b _ _ (by kernel_rfl), Result.andThen_ok, run_neq_struct]
  rw [show (10000 : Nat) = 9999 + 1 from rfl, eq_box]
  rfl
section
variable {w w' : World}
set_option maxHeartbeats 1000000 in
theorem rf_Same {va vb : Value} (la lb : List Bx) (ha : RowB w va la) (hb : RowB w vb lb) (hl : la.length ≤ 1000000) :
    Calls Tryz.prog 8 #[va, vb] w fun e w' => e = .returned (.bool (decide (la = lb))) ∧ Keeps w w' none_ := by
  obtain ⟨a, ca, rfl, hra⟩ := ha
  obtain ⟨b, cb, rfl, hrb⟩ := hb
  refine calls_of_vc (args := [.slice a la.length ca, .slice b lb.length cb]) Tryz.func8 rfl (Nat.le_of_ble_eq_true rfl) ?_; refine Sat.go hmix ?_; conv => whnf
  by_cases hn : la.length = lb.length
  rotate_left
  · refine KGO ?_
    refine ⟨ret_bool ?_, Keeps.refl _ _⟩
    exact (decide_eq_false fun h => hn (by rw [h])).symm
  refine KGO ?_
  refine Loop.intro (ι := Nat) (fun i => [(0, .slice a la.length ca), (1, .slice b lb.length cb), (5, .int .i64 (i : Nat))])
    (fun i wr => Keeps w wr none_ ∧ i ≤ la.length ∧ la.take i = lb.take i) (fun i => la.length - i) 0 ⟨rfl, rfl, rfl, trivial⟩ ⟨Keeps.refl _ _, Nat.zero_le _, rfl⟩ ?_
  rintro i gg wr ⟨hK, hi, ht⟩
  (first | refine Then.go hmix ?_ | refine Sat.go hmix ?_ | refine ResK.go ?_ | skip); conv => whnf
  by_cases hlt : i < la.length
  · have hlt2 : i < lb.length := by omega
    obtain ⟨ga, oa, rfl, hga, hata⟩ := hra (by omega)
    obtain ⟨gb, ob, rfl, hgb, hatb⟩ := hrb (by omega)
    refine KGO ?_
    refine box_neq _ _ _ _ ?_
    by_cases he : la[i] = lb[i]
    · rw [decide_eq_true he]
      refine KGO ?_
      exact ⟨i + 1, ⟨rfl, rfl, v_int (by simp), trivial⟩, ⟨hK.drew, by omega, by rw [List.take_succ_eq_append_getElem hlt, List.take_succ_eq_append_getElem hlt2, ht, he]⟩, by dsimp only; omega⟩
    · rw [decide_eq_false he]
      refine KGO ?_
      refine ⟨ret_bool (decide_eq_false fun h => he (by simp [h])).symm, hK.drew⟩
  · refine KGO ?_
    refine ⟨ret_bool ?_, hK⟩
    have e : i = la.length := by omega
    rw [e, List.take_length, hn, List.take_length] at ht
    simp [ht]
def fewB (l : List Bx) : Bool := decide (l.length ≤ 70) && l.all fun b => decide (b.name.length ≤ 200) && decide (b.role.length ≤ 200)
set_option maxHeartbeats 1000000 in
theorem lw_few {v : Value} (l : List Bx) (hv : RowB w v l) (hl : l.length ≤ 9223372036854775807) :
    Calls Tryz.prog 5 #[v] w fun e w' => (∃ q, e = .returned (.bool q) ∧ (q = true → fewB l = true)) ∧ Keeps w w' none_ := by
  obtain ⟨a, cap, rfl, hr⟩ := hv
  refine calls_of_vc (args := [.slice a l.length cap]) Tryz.func5 rfl (Nat.le_of_ble_eq_true rfl) ?_; refine Sat.go hmix ?_; conv => whnf
  refine Loop.intro (ι := Nat) (fun i => [(0, .slice a l.length cap), (3, .int .i64 (i : Nat))])
    (fun i wr => Keeps w wr none_ ∧ i ≤ l.length ∧ i ≤ 80 ∧ ∀ b ∈ l.take i, b.name.length ≤ 200 ∧ b.role.length ≤ 200) (fun i => l.length - i) 0 ⟨rfl, rfl, trivial⟩ ⟨Keeps.refl _ _, Nat.zero_le _, by decide, by simp⟩ ?_
  rintro i gg wr ⟨hK, hi, hi80, ht⟩
  (first | refine Then.go hmix ?_ | refine Sat.go hmix ?_ | refine ResK.go ?_ | skip); conv => whnf
  have hend : ¬ (i < l.length ∧ i < 80) → l.length ≤ 70 → fewB l = true := fun h h70 => by
    have e : i = l.length := by omega
    rw [e, List.take_length] at ht
    unfold fewB
    rw [Bool.and_eq_true, decide_eq_true_eq, List.all_eq_true]
    exact ⟨h70, fun b hb => by have := ht b hb; simp [this]⟩
  by_cases hlt : i < l.length
  · by_cases h80 : i < 80
    · obtain ⟨ga, oa, rfl, hga, hata⟩ := hr (by omega)
      have htk : l.take (i + 1) = l.take i ++ [l[i]] := List.take_succ_eq_append_getElem hlt
      have hsz := str_size l[i].name
      have hsz2 := str_size l[i].role
      by_cases h1 : 200 < l[i].name.length
      · refine KGO ?_
        exact ⟨⟨_, rfl, fun h => by cases h⟩, hK⟩
      by_cases h2 : 200 < l[i].role.length
      · refine KGO ?_
        exact ⟨⟨_, rfl, fun h => by cases h⟩, hK⟩
      refine KGO ?_
      refine ⟨i + 1, ⟨rfl, v_int (by simp), trivial⟩, ⟨hK, by omega, by omega, ?_⟩, by dsimp only; omega⟩
      rw [htk]
      intro b hb
      rcases List.mem_append.1 hb with hb | hb
      · exact ht b hb
      · rw [List.mem_singleton.1 hb]; omega
    · by_cases h70 : l.length ≤ 70
      · omega
      · refine KGO ?_
        exact ⟨⟨_, rfl, fun h => absurd (of_decide_eq_true h) (by omega)⟩, hK⟩
  · by_cases h70 : l.length ≤ 70
    · refine KGO ?_
      exact ⟨⟨_, rfl, fun _ => hend (by omega) h70⟩, hK⟩
    · refine KGO ?_
      exact ⟨⟨_, rfl, fun h => absurd (of_decide_eq_true h) (by omega)⟩, hK⟩
end
end Go.Proofs.YtdghfagipheabaaGreatDoor

-- alias Tryz
namespace Go.Proofs.YtdghfagipheabaaGreatDoor
open Go.RowKit Go.Pw Go.Vc Go.Cs Go.Lib
set_option linter.unusedVariables false
set_option maxRecDepth 100000
def actCells (a : ActB) : List Value := [.int .i64 a.Do, .int .i64 a.Id, .int .i64 a.Up, .string (str a.Name), .string (str a.Role)]
theorem and3 (n : Int) : IntKind.i64.wrap ((BitVec.ofInt IntKind.i64.bits n &&& BitVec.ofInt IntKind.i64.bits 3).toNat : Nat) = n % 4 := by
  show IntKind.i64.wrap ((BitVec.ofInt 64 n &&& BitVec.ofInt 64 3).toNat : Nat) = n % 4
  have h3 : (BitVec.ofInt 64 3).toNat = 2 ^ 2 - 1 := by decide
  have key : (BitVec.ofInt 64 n &&& BitVec.ofInt 64 3).toNat = (n % ((2 ^ 64 : Nat) : Int)).toNat % 2 ^ 2 := by
    rw [BitVec.toNat_and, BitVec.toNat_ofInt, h3, Nat.and_two_pow_sub_one_eq_mod]
  rw [key, IntKind.wrap_i64]
  omega
section
variable {w w' : World}
set_option maxHeartbeats 2000000 in
theorem lw_done {v : Value} (l : List Bx) (x : ActB) (hv : RowB w v l) (hl : l.length ≤ 1000) (hs : SmallB l) (hn : x.Name.length ≤ 1000000) (hrl : x.Role.length ≤ 1000000) (hE : BEnv w) :
    Calls Tryz.prog 6 #[v, .agg (actCells x).toArray] w fun e w' => ∃ v', e = .returned (.tuple #[v', .int .i64 ((doneL l x).2 : Nat)]) ∧ OwnB w' w.heap.size v' (doneL l x).1 ∧ Keeps w w' none_ := by
  have hv0 := hv
  obtain ⟨a, cap, rfl, hr⟩ := hv
  refine calls_of_vc (args := [.slice a l.length cap, .agg #[.int .i64 x.Do, .int .i64 x.Id, .int .i64 x.Up, .string (str x.Name), .string (str x.Role)]]) Tryz.func6 rfl (Nat.le_of_ble_eq_true rfl) ?_; refine Sat.go hmix ?_; conv => whnf
  rw [show w.alloc (.cells #[.int .i64 x.Do, .int .i64 x.Id, .int .i64 x.Up, .string (str x.Name), .string (str x.Role)] 24) = w.alloc (.cells (List.toArray [.int .i64 x.Do, .int .i64 x.Id, .int .i64 x.Up, .string (str x.Name), .string (str x.Role)]) 24) from rfl]
  have a_b0 := at_fresh w 24 [.int .i64 x.Do, .int .i64 x.Id, .int .i64 x.Up, .string (str x.Name), .string (str x.Role)]
  have k_w0 : Keeps w (w.alloc (.cells (List.toArray [.int .i64 x.Do, .int .i64 x.Id, .int .i64 x.Up, .string (str x.Name), .string (str x.Role)]) 24)) none_ := (Keeps.refl _ _).alloc _
  have z_w0 : (w.alloc (.cells (List.toArray [.int .i64 x.Do, .int .i64 x.Id, .int .i64 x.Up, .string (str x.Name), .string (str x.Role)]) 24)).heap.size = w.heap.size + 1 := by simp
  generalize w.alloc (.cells (List.toArray [.int .i64 x.Do, .int .i64 x.Id, .int .i64 x.Up, .string (str x.Name), .string (str x.Role)]) 24) = w0 at *
  generalize hs_b0 : w.heap.size = b0 at *
  have hv1 := hv0.keep k_w0
  have hE1 := hE.keep k_w0
  refine KGO ?_
  rw [and3]
  by_cases h0 : x.Do % 4 = 0
  · refine KGO ?_
    rw [doneL, if_pos h0]
    refine CallS.of (Tryz.call9 _ _) (bx_Add (w := w0) l x.Up x.Name x.Role x.Id hv1 hl hs hn hE1) ?_
    rintro e w2 ⟨v1, rfl, o1, k1⟩
    obtain ⟨a1, c1, rfl⟩ := own_shape o1
    refine ⟨_, rfl, ?_⟩; (first | refine Then.go hmix ?_ | refine Sat.go hmix ?_ | refine ResK.go ?_ | skip); conv => whnf
    refine KGO ?_
    exact ⟨_, rfl, own_base o1 (by omega), k_w0.trans0 k1⟩
  by_cases h1 : x.Do % 4 = 1
  · refine KGO ?_
    rw [doneL, if_neg h0, if_pos h1]
    refine CallS.of (Tryz.call12 _ _) (bx_Name (w := w0) l x.Id x.Name hv1 hl hs hn hE1) ?_
    rintro e w2 ⟨v1, rfl, o1, k1⟩
    obtain ⟨a1, c1, rfl⟩ := own_shape o1
    refine ⟨_, rfl, ?_⟩; (first | refine Then.go hmix ?_ | refine Sat.go hmix ?_ | refine ResK.go ?_ | skip); conv => whnf
    refine KGO ?_
    exact ⟨_, rfl, own_base o1 (by omega), k_w0.trans0 k1⟩
  by_cases h2 : x.Do % 4 = 2
  · refine KGO ?_
    rw [doneL, if_neg h0, if_neg h1, if_pos h2]
    refine CallS.of (Tryz.call10 _ _) (bx_Move (w := w0) l x.Id x.Up hv1 hl hs hE1) ?_
    rintro e w2 ⟨v1, rfl, o1, k1⟩
    obtain ⟨a1, c1, rfl⟩ := own_shape o1
    refine ⟨_, rfl, ?_⟩; (first | refine Then.go hmix ?_ | refine Sat.go hmix ?_ | refine ResK.go ?_ | skip); conv => whnf
    refine KGO ?_
    exact ⟨_, rfl, own_base o1 (by omega), k_w0.trans0 k1⟩
  refine KGO ?_
  rw [doneL, if_neg h0, if_neg h1, if_neg h2]
  refine CallS.of (Tryz.call11 _ _) (bx_Drop (w := w0) l x.Id hv1 hl hs hE1) ?_
  rintro e w2 ⟨v1, rfl, o1, k1⟩
  obtain ⟨a1, c1, rfl⟩ := own_shape o1
  refine ⟨_, rfl, ?_⟩; (first | refine Then.go hmix ?_ | refine Sat.go hmix ?_ | refine ResK.go ?_ | skip); conv => whnf
  refine KGO ?_
  exact ⟨_, rfl, own_base o1 (by omega), k_w0.trans0 k1⟩
end
end Go.Proofs.YtdghfagipheabaaGreatDoor
