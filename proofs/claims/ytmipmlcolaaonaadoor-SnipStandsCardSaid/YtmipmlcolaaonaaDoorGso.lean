/- Helper text of this claim: Sn4, Sn5: lemmas and contracts that the proved statement rests on; no conditions of its own. -/
import Derived.Test.YtmipmlcolaaonaaDoorGsn
namespace Go.Cs
open Go.Lib
set_option linter.unusedVariables false
/-! ### Where the snippet stands: plain -/
theorem startN_width : ∀ (us : List (List UInt8)) (n : Nat) (width : Int), ((startN us n width : Nat) : Int) ≤ max (n : Int) width
  | [], n, width => by rw [startN]; omega
  | u :: r, n, width => by
    rw [startN]
    split
    · have := startN_width r (n + u.length) width; omega
    · omega
theorem startN_bd (l : List UInt8) : ∀ (n : Nat) (width : Int), ∃ k, Bd l k ∧ startN (units l) n width = n + k := by
  induction l using dec_ind with
  | nil => intro n width; exact ⟨0, .zero _, rfl⟩
  | step l hne ih =>
    intro n width
    have hle := decodeL_le l hne
    rw [units_step l hne, startN]
    split
    · obtain ⟨k, hk, he⟩ := ih (n + (l.take (decodeL l).2).length) width
      refine ⟨(decodeL l).2 + k, .step _ _ hne hk, ?_⟩
      rw [he, List.length_take, Nat.min_eq_left hle]; omega
    · exact ⟨0, .zero _, rfl⟩
theorem valid_bd {l : List UInt8} {n : Nat} (h : Bd l n) : validD l = true → validD (l.take n) = true ∧ validD (l.drop n) = true := by
  induction h with
  | zero l => intro hv; exact ⟨by rw [List.take_zero]; rfl, by simpa using hv⟩
  | step l n hne hb ih =>
    intro hv
    have hw := decodeL_width l
    rw [validD_step l hne] at hv
    split at hv
    · cases hv
    · rename_i hno
      obtain ⟨h1, h2⟩ := ih hv
      rw [List.drop_drop] at h2
      refine ⟨?_, h2⟩
      have hne2 : l.take ((decodeL l).2 + n) ≠ [] := fun e => by
        have := congrArg List.length e
        have h0 := List.length_pos_iff.2 hne
        rw [List.length_take, List.length_nil] at this; omega
      have hd := dec_take l ((decodeL l).2 + n) hne (by omega)
      rw [validD_step _ hne2, hd, if_neg hno, List.drop_take, Nat.add_sub_cancel_left]
      exact h1
theorem word_bd (l : List UInt8) (i : Nat) (hi : i < (wordsL l).length) : Bd l (fromOf (wordsL l) i) ∧ Bd l (toOf (wordsL l) i) := by
  have hb := places_bd l
  rw [wordsL_eq] at hi ⊢
  generalize wd (us l) 0 none = ps at *
  rw [List.length_map] at hi
  unfold fromOf toOf
  rw [getD_map_mk l ps i hi]
  have := hb ps[i] (List.getElem_mem hi)
  exact ⟨this.1, this.2.1⟩
theorem snip_valid (ks : List (List UInt8)) (l : List UInt8) (width : Int) (hv : validD l = true) : validD (snipL ks l width).1 = true := by
  unfold snipL
  cases hb : bestN ks (wordsL l) width (wordsL l).length with
  | none =>
    obtain ⟨k, hk, he⟩ := startN_bd l 0 width
    dsimp only
    rw [he, Nat.zero_add]
    exact (valid_bd hk hv).1
  | some f =>
    obtain ⟨h1, h2, _⟩ := bestN_spec ks (wordsL l) width _ f hb
    have hE := (winE_le (wordsL l) width f (by omega)).2
    have hord := words_order l
    have e1 := (hord.each f h1).1
    have e3 := hord.to_mono (show f ≤ winE (wordsL l) width f - 1 by omega) (by omega)
    dsimp only
    unfold cutL
    dsimp only
    exact (valid_bd (Bd.take (word_bd l f h1).1 _ (by omega)) (valid_bd (word_bd l (winE (wordsL l) width f - 1) (by omega)).2 hv).1).2
theorem snip_width (ks : List (List UInt8)) (l : List UInt8) (width : Int) : (((snipL ks l width).1.length : Nat) : Int) ≤ max width 0 := by
  unfold snipL
  cases hb : bestN ks (wordsL l) width (wordsL l).length with
  | none =>
    have := startN_width (units l) 0 width
    dsimp only
    rw [List.length_take]
    omega
  | some f =>
    obtain ⟨h1, h2, _⟩ := bestN_spec ks (wordsL l) width _ f hb
    have hE := (winE_le (wordsL l) width f (by omega)).2
    have hf := winE_fits (wordsL l) width f (by omega) (winE (wordsL l) width f - 1) (by omega) (by omega)
    have e2 := ((words_order l).each (winE (wordsL l) width f - 1) (by omega)).2
    dsimp only
    rw [cut_len l _ _ e2]
    omega
theorem snip_piece (ks : List (List UInt8)) (l : List UInt8) (width : Int) : ∃ i, i + (snipL ks l width).1.length ≤ l.length ∧ cutL l (i, i + (snipL ks l width).1.length) = (snipL ks l width).1 := by
  unfold snipL
  cases hb : bestN ks (wordsL l) width (wordsL l).length with
  | none =>
    dsimp only
    refine ⟨0, by rw [List.length_take]; omega, ?_⟩
    unfold cutL
    rw [List.drop_zero, Nat.zero_add, List.length_take, ← List.take_take, List.take_length]
  | some f =>
    obtain ⟨h1, h2, _⟩ := bestN_spec ks (wordsL l) width _ f hb
    have hE := (winE_le (wordsL l) width f (by omega)).2
    have hord := words_order l
    have e1 := (hord.each f h1).1
    have e2 := (hord.each (winE (wordsL l) width f - 1) (by omega)).2
    have e3 := hord.to_mono (show f ≤ winE (wordsL l) width f - 1 by omega) (by omega)
    dsimp only
    rw [cut_len l _ _ e2]
    exact ⟨fromOf (wordsL l) f, by omega, by rw [show fromOf (wordsL l) f + (toOf (wordsL l) (winE (wordsL l) width f - 1) - fromOf (wordsL l) f) = toOf (wordsL l) (winE (wordsL l) width f - 1) by omega]⟩
/-- The marks are the places of the sought words of the snippet's own text. -/
theorem snip_marks (ks : List (List UInt8)) (l : List UInt8) (width : Int) : (snipL ks l width).2 = [] ∨ (snipL ks l width).2 = ((wordsL (snipL ks l width).1).filter fun x => decide (x.1 ∈ ks)).map (·.2) := by
  unfold snipL
  cases hb : bestN ks (wordsL l) width (wordsL l).length with
  | none => exact .inl rfl
  | some f =>
    right
    obtain ⟨h1, h2, _⟩ := bestN_spec ks (wordsL l) width _ f hb
    have hE := (winE_le (wordsL l) width f (by omega)).2
    dsimp only
    rw [sub_words l f _ h2 hE, List.filter_map, List.map_map]
    rfl
/-- A list of marks in order, after at, within n, each a sought term. -/
def MarksOk (ks : List (List UInt8)) (T : List UInt8) : Nat → List (Nat × Nat) → Prop
  | _, [] => True
  | e, m :: r => e ≤ m.1 ∧ m.1 < m.2 ∧ m.2 ≤ T.length ∧ foldL (cutL T m) ∈ ks ∧ MarksOk ks T m.2 r
theorem marks_ok (ks : List (List UInt8)) (T : List UInt8) : ∀ (ps : List (Nat × Nat)) (e : Nat), (∀ p ∈ ps, e ≤ p.1 ∧ p.1 < p.2 ∧ p.2 ≤ T.length) → ps.Pairwise (fun p q => p.2 ≤ q.1) → MarksOk ks T e (((ps.map (mk T)).filter fun x => decide (x.1 ∈ ks)).map (·.2))
  | [], e, _, _ => trivial
  | p :: r, e, h, hp => by
    have hp0 := h p (by simp)
    rw [List.pairwise_cons] at hp
    rw [List.map_cons, List.filter_cons]
    split
    · rename_i hk
      have hk := of_decide_eq_true hk
      exact ⟨hp0.1, hp0.2.1, hp0.2.2, hk, marks_ok ks T r p.2 (fun q hq => ⟨hp.1 q hq, (h q (by simp [hq])).2⟩) hp.2⟩
    · exact marks_ok ks T r e (fun q hq => h q (by simp [hq])) hp.2
theorem snip_marksOk (ks : List (List UInt8)) (l : List UInt8) (width : Int) : MarksOk ks (snipL ks l width).1 0 (snipL ks l width).2 := by
  rcases snip_marks ks l width with h | h
  · rw [h]; trivial
  · rw [h]
    generalize (snipL ks l width).1 = T
    obtain ⟨h1, h2⟩ := chain_ord (us T) (us_pos T) _ 0 (places_chain T)
    rw [us_W] at h1
    rw [wordsL_eq]
    exact marks_ok ks T _ 0 h1 h2
theorem marksOk_drop (ks : List (List UInt8)) (T : List UInt8) : ∀ (l : List (Nat × Nat)) (e i : Nat) (h : i < l.length), MarksOk ks T e l → (if i = 0 then e else (l.getD (i - 1) (0, 0)).2) ≤ l[i].1 ∧ l[i].1 < l[i].2 ∧ l[i].2 ≤ T.length ∧ foldL (cutL T l[i]) ∈ ks
  | [], e, i, h, _ => by simp at h
  | m :: r, e, 0, h, ⟨h1, h2, h3, h4, _⟩ => ⟨by rw [if_pos rfl]; exact h1, h2, h3, h4⟩
  | m :: r, e, i + 1, h, ⟨_, _, _, _, h5⟩ => by
    have hi : i < r.length := by simpa using h
    have ih := marksOk_drop ks T r m.2 i hi h5
    rw [if_neg (by omega)]
    simp only [List.getElem_cons_succ]
    refine ⟨?_, ih.2⟩
    have h6 := ih.1
    cases i with
    | zero => simpa using h6
    | succ i =>
      rw [if_neg (by omega)] at h6
      simpa using h6
end Go.Cs

namespace Go.Cs
open Go.Lib
set_option linter.unusedVariables false
/-! ### Upper case of ASCII letters: plain -/
def upB (b : UInt8) : UInt8 := if 97 ≤ b.toNat ∧ b.toNat ≤ 122 then b - 32 else b
def upL (l : List UInt8) : List UInt8 := l.map upB
theorem upB_small : ∀ n : Fin 128, (upB (UInt8.ofNat n.val)).toNat < 128 ∧ lowC (upB (UInt8.ofNat n.val)).toNat = lowC n.val := by decide +kernel
theorem upB_lt (b : UInt8) (h : b.toNat < 128) : (upB b).toNat < 128 ∧ lowC (upB b).toNat = lowC b.toNat := by
  have := upB_small ⟨b.toNat, h⟩
  simpa using this
theorem upB_ge (b : UInt8) (h : 128 ≤ b.toNat) : upB b = b := by unfold upB; rw [if_neg (by omega)]
theorem up_len (l : List UInt8) : (upL l).length = l.length := by unfold upL; simp
theorem up_cut (l : List UInt8) (p : Nat × Nat) : upL (cutL l p) = cutL (upL l) p := by
  unfold upL cutL; rw [List.map_drop, List.map_take]
theorem up_alike (t : List UInt8) : Alike t (upL t) := by
  induction t with
  | nil => exact ⟨[], [], [], rfl, rfl, by simp, by simp, by simp⟩
  | cons b t ih =>
    by_cases hc : cont b
    · obtain ⟨p, q, q', h1, h2, h3, h4, h5⟩ := ih
      have hb : upB b = b := upB_ge b (by unfold cont at hc; omega)
      refine ⟨b :: p, q, q', by rw [h1]; rfl, ?_, fun x hx => ?_, h4, h5⟩
      · show upB b :: upL t = _
        rw [hb, h2]; rfl
      · rcases List.mem_cons.1 hx with rfl | hx
        · exact hc
        · exact h3 x hx
    · refine ⟨[], b :: t, upL (b :: t), rfl, rfl, by simp, fun x hx => by simp at hx; subst hx; exact hc, fun x hx => ?_⟩
      have hx : upB b = x := by simpa [upL] using hx
      subst hx
      by_cases h : b.toNat < 128
      · have := (upB_lt b h).1
        unfold cont; omega
      · rw [upB_ge b (by omega)]; exact hc
theorem dec_ascii (b : UInt8) (t : List UInt8) (h : b.toNat < 128) : decodeL (b :: t) = (b.toNat, 1) := by
  rw [decodeL_N]; unfold decodeN; rw [List.getD_cons_zero, if_pos h]
/-- The steps of a text in upper case: as wide, and the same when folded. -/
theorem up_fold (l : List UInt8) : foldL (upL l) = foldL l ∧ (units (upL l)).map (·.length) = (units l).map (·.length) := by
  induction l using dec_ind with
  | nil => exact ⟨rfl, rfl⟩
  | step l hne ih =>
    have hne2 : upL l ≠ [] := fun e => hne (by have := congrArg List.length e; rw [up_len] at this; exact List.eq_nil_of_length_eq_zero this)
    have hle := decodeL_le l hne
    have hd : upL (l.drop (decodeL l).2) = (upL l).drop (decodeL l).2 := by unfold upL; rw [List.map_drop]
    rw [hd] at ih
    have key : (decodeL (upL l)).2 = (decodeL l).2 ∧ head1 (upL l) = head1 l := by
      obtain ⟨b, t, rfl⟩ := List.exists_cons_of_ne_nil hne
      by_cases hb : b.toNat < 128
      · obtain ⟨h1, h2⟩ := upB_lt b hb
        have e1 := dec_ascii b t hb
        have e2 : decodeL (upL (b :: t)) = ((upB b).toNat, 1) := dec_ascii (upB b) (upL t) h1
        refine ⟨by rw [e1, e2], ?_⟩
        unfold head1
        rw [e1, e2, if_neg (by dsimp only; omega), if_neg (by dsimp only; omega)]
        dsimp only
        rw [h2]
      · have hub := upB_ge b (by omega)
        have hul : upL (b :: t) = b :: upL t := by show upB b :: upL t = _; rw [hub]
        rcases dec_whole (b :: t) hne with h | ⟨h1, h2, h3, h4⟩
        · have e2 := bad_alike b (up_alike t) h
          rw [hul]
          refine ⟨by rw [e2, h], ?_⟩
          unfold head1
          rw [e2, h]; rfl
        · -- a whole rune of several bytes: none of them changes
          obtain ⟨x, r, hx, _, hr⟩ := enc_shape _ h1
          have hkeep : (upL (b :: t)).take (decodeL (b :: t)).2 = enc (decodeL (b :: t)).1 := by
            have : upL ((b :: t).take (decodeL (b :: t)).2) = (b :: t).take (decodeL (b :: t)).2 := by
              rw [h2, hx]
              have hxb : x = b := by
                have := congrArg (fun y => y.getD 0 0) h2
                rw [hx] at this
                have hk : (decodeL (b :: t)).2 ≠ 0 := by have := decodeL_width (b :: t); omega
                obtain ⟨k, hk2⟩ : ∃ k, (decodeL (b :: t)).2 = k + 1 := ⟨(decodeL (b :: t)).2 - 1, by omega⟩
                rw [hk2] at this
                simpa using this.symm
              show upB x :: upL r = x :: r
              rw [hxb, hub]
              congr 1
              have : ∀ (r : List UInt8), (∀ y ∈ r, cont y) → upL r = r := by
                intro r
                induction r with
                | nil => intro _; rfl
                | cons y r ih =>
                  intro h
                  have hy := h y (by simp)
                  show upB y :: upL r = _
                  rw [upB_ge y (by unfold cont at hy; omega), ih fun z hz => h z (by simp [hz])]
              exact this r hr
            rw [← h2, ← this]
            unfold upL; rw [List.map_take]
          have e2 := whole_of (upL (b :: t)) _ h1 (by rw [← h3]; exact hkeep)
          rw [← h3] at e2
          refine ⟨by rw [e2], ?_⟩
          unfold head1
          rw [e2, if_neg h4, if_neg (by exact h4)]
    rw [foldL_step _ hne2, foldL_step l hne, units_step _ hne2, units_step l hne, key.1, key.2, ih.1, List.map_cons, List.map_cons, ih.2, List.length_take, List.length_take, up_len]
    exact ⟨rfl, rfl⟩
theorem up_words (l : List UInt8) : wordsL (upL l) = wordsL l := by rw [← words_fold (upL l), (up_fold l).1, words_fold]
theorem up_sought (ws : List (List UInt8)) : soughtL (ws.map upL) = soughtL ws := by
  unfold soughtL
  rw [List.flatMap_map]
  congr 1
  funext x
  rw [up_words]
theorem startN_lens : ∀ (a b : List (List UInt8)) (n : Nat) (width : Int), a.map (·.length) = b.map (·.length) → startN a n width = startN b n width
  | [], [], n, width, _ => rfl
  | [], y :: s, n, width, h => by simp at h
  | x :: r, [], n, width, h => by simp at h
  | x :: r, y :: s, n, width, h => by
    simp only [List.map_cons, List.cons.injEq] at h
    rw [startN, startN, h.1, startN_lens r s _ width h.2]
theorem up_snip (ks : List (List UInt8)) (l : List UInt8) (width : Int) : snipL ks (upL l) width = (upL (snipL ks l width).1, (snipL ks l width).2) := by
  unfold snipL
  rw [up_words, startN_lens _ _ 0 width (up_fold l).2]
  cases bestN ks (wordsL l) width (wordsL l).length with
  | none => dsimp only; unfold upL; rw [List.map_take]
  | some f => dsimp only; rw [up_cut]
/-- How many words of a text are sought. -/
def hits (ks : List (List UInt8)) (ws : List Wd3) : Nat := (ws.filter fun x => decide (x.1 ∈ ks)).length
theorem snip_all (ks : List (List UInt8)) (l : List UInt8) (width : Int) (h : (l.length : Int) ≤ width) : (snipL ks l width).2.length = hits ks (wordsL l) := by
  have hord := words_order l
  unfold snipL
  rcases Nat.eq_zero_or_pos (wordsL l).length with h0 | h0
  · have he : wordsL l = [] := List.eq_nil_of_length_eq_zero h0
    rw [he]
    rfl
  have hfit : Fits (wordsL l) width 0 (wordsL l).length := fun k h1 h2 => by
    have := (hord.each k h2).2
    omega
  have hE : winE (wordsL l) width 0 = (wordsL l).length := by
    have h1 := winE_ge (wordsL l) width 0 _ (wordsL l).length rfl (Nat.zero_le _) (Nat.le_refl _) hfit
    have h2 := (winE_le (wordsL l) width 0 (Nat.zero_le _)).2
    omega
  have hb : ∀ n, 0 < n → n ≤ (wordsL l).length → bestN ks (wordsL l) width n = some 0 := by
    intro n
    induction n with
    | zero => intro h; omega
    | succ n ih =>
      intro _ hn
      rw [bestN]
      rcases Nat.eq_zero_or_pos n with hz | hz
      · subst hz
        rw [bestN]
        dsimp only
        rw [if_pos (by rw [hE]; exact h0)]
      · rw [ih hz (by omega)]
        dsimp only
        rw [if_neg]
        rintro ⟨_, h2⟩
        have : showsL ks (winW (wordsL l) width n) ≤ showsL ks (winW (wordsL l) width 0) := by
          refine shows_mono ks _ _ fun x hx => ⟨x, ?_, rfl⟩
          have e : winW (wordsL l) width 0 = wordsL l := by unfold winW; rw [hE, List.take_length, List.drop_zero]
          rw [e]
          unfold winW at hx
          exact List.mem_of_mem_take (List.mem_of_mem_drop hx)
        omega
  rw [hb _ h0 (Nat.le_refl _)]
  dsimp only
  unfold marksL hits winW
  rw [hE, List.take_length, List.drop_zero, List.length_map]
end Go.Cs
