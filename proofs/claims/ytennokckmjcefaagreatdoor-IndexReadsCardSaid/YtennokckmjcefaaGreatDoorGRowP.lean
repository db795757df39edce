/- Helper lemmas; no conditions of their own. -/
import Derived.Lib.Small
import Derived.Test.YtennokckmjcefaaGreatDoorGCs0
set_option linter.unusedVariables false
set_option maxHeartbeats 4000000
namespace Go.Vc
open Go Go.Pw
theorem VarK.setMid {b : Nat} {T : TypeId} : ∀ (vs pre mid post : List Value) (w : World), VarK w b T (pre ++ mid ++ post) → vs.length = mid.length → VarK (zbP b vs pre.length w) b T (pre ++ vs ++ post)
 | [], pre, mid, post, w, h, hl => by
  obtain rfl : mid = [] := yan hl.symm
  exact h
 | v :: r, pre, [], post, w, h, hl => by simp at hl
 | v :: r, pre, m :: mid, post, w, h, hl => by
  have h1 := h.set pre.length v
  rw [show (pre ++ (m :: mid) ++ post).set pre.length v = (pre ++ [v]) ++ mid ++ post by
   rw [yap, List.set_append_right _ _ (yag _), ycb]
   simp] at h1
  have h2 := VarK.setMid r (pre ++ [v]) mid post _ h1 (by simpa using hl)
  rw [show (pre ++ [v]).length = pre.length + 1 by simp] at h2
  have e : pre ++ v :: r ++ post = pre ++ [v] ++ r ++ post := by simp
  rw [e]
  exact h2
theorem zpc {α : Type} (f : α → List Value) (s : Nat) (hf : ∀ x, (f x).length = s) (l : List α) (k : Nat) (hk : k < l.length) (x : α) : (l.set k x).flatMap f = (l.flatMap f).take (k * s) ++ f x ++ (l.flatMap f).drop (k * s + s) := by
 rw [flatK_take f s hf, show k * s + s = (k + 1) * s by rw [ybp], flatK_drop f s hf, List.set_eq_take_append_cons_drop, if_pos hk, yaC, yao, yap]
theorem Store.elemK {P : Program} {t e : TypeId} {w : World} {B s g cap k : Nat} {cells : List Value} {α : Type} {f : α → List Value} {l : List α} (x : α) {K : World → Prop} (hf : ∀ x, (f x).length = s) (hs : zba P t = some s) (hfl : ∀ v ∈ f x, Flat v)
  (hv : VarK w g e cells) (hB : B ≤ g) (hn : l.length ≤ cap) (hc : cap ≤ maxLen) (hl : cells.length = cap * s) (ht : cells.take (l.length * s) = l.flatMap f) (hk : k < l.length)
  (q : ∀ w', w'.ownsRow B e s (.slice (some ⟨g, 0, none⟩) l.length cap) l.length ((l.set k x).flatMap f) → VarK w' g e (cells.take (k * s) ++ f x ++ cells.drop (k * s + s)) → Kp w w' (one_ g) → K w') :
  Store P t ⟨g, 0 + k * s, none⟩ (.agg (f x).toArray) w K := by
 have hks : k * s + s ≤ l.length * s := by rw [← ybp]; exact yaV s hk
 have hls : l.length * s ≤ cells.length := by rw [hl]; exact yaV s hn
 have hA : (cells.take (k * s)).length = k * s := by rw [yar]; omega
 have hM : ((cells.drop (k * s)).take s).length = s := by rw [yar, yau]; omega
 have hsp : cells = cells.take (k * s) ++ (cells.drop (k * s)).take s ++ cells.drop (k * s + s) := by
  conv => lhs; rw [← yaB (k * s) cells, ← yaB s (cells.drop (k * s)), yaM]
  rw [yap]
 have v2 : VarK (zbP g (f x) (0 + k * s) w) g e (cells.take (k * s) ++ f x ++ cells.drop (k * s + s)) := by
  have h := VarK.setMid (f x) (cells.take (k * s)) ((cells.drop (k * s)).take s) (cells.drop (k * s + s)) w (by rw [← hsp]; exact hv) (by rw [hf, hM])
  rw [hA] at h
  rw [show 0 + k * s = k * s from yaU _]
  exact h
 refine Store.agg (f x) (by rw [hs, hf]) hfl (fun j hj => ⟨cells[k * s + j]'(by rw [hf] at hj; omega), ?_⟩) (fun j => hv.frozen j) (q _ ?_ v2 (zcg (f x) (0 + k * s) w))
 ·have := hv.at (k * s + j) _ (List.getElem?_eq_getElem (by rw [hf] at hj; omega))
  rw [yaU] at this ⊢
  exact this
 have hsl : (l.set k x).length = l.length := ybm
 refine zbY hB v2 hn hc ?_ ?_ ?_
 ·rw [yaa, yaa, hA, hf, yau]; omega
 ·have hAX : (cells.take (k * s) ++ f x).length = k * s + s := by rw [yaa, hA, hf]
  rw [zpc f s hf l k hk x, ← ht, ybz, yaJ OM, List.drop_take]
  generalize hX : cells.take (k * s) ++ f x = X at *
  rw [List.take_append, yaz OM, hAX]
 rw [flatK_len f s hf, hsl]
end Go.Vc
namespace Go.Cs
open Go.Lib
theorem b2 (x : Nat) (y : Int) (h : (x : Int) = y) : UInt8.ofNat x = y.toNat.toUInt8 := by subst h; rfl
theorem zoM (s : ByteArray) (n : Nat) (h : n < s.size) : ∃ x : UInt8, s.data.toList.getD n 0 = x ∧ (L s)[n]? = some x ∧ (L s).take (n + 1) = (L s).take n ++ [x] ∧ (L s).drop n = x :: (L s).drop (n + 1) := by
 have hl := L_len s
 have hn : n < (L s).length := OM
 refine ⟨(L s)[n], ?_, List.getElem?_eq_getElem hn, ?_, ?_⟩
 ·show (L s).getD n 0 = _; rw [List.getD, List.getElem?_eq_getElem hn]; rfl
 ·rw [List.take_add_one, List.getElem?_eq_getElem hn]; rfl
 rw [yat hn]
def kindN (r : Nat) : Nat :=
 if 1114111 < r then 0
 else if r < 192 then (if 48 ≤ r ∧ r ≤ 57 then 1 else if 65 ≤ r ∧ r ≤ 90 then 1 else if 97 ≤ r ∧ r ≤ 122 then 1 else 0)
 else if r = 215 then 0 else if r = 247 then 0 else if 8192 ≤ r ∧ r ≤ 11263 then 0 else if 11904 ≤ r ∧ r ≤ 12255 then 2 else if 12288 ≤ r ∧ r ≤ 12351 then 0
 else if 12353 ≤ r ∧ r ≤ 12543 then 2 else if 12549 ≤ r ∧ r ≤ 12591 then 2 else if 12593 ≤ r ∧ r ≤ 12686 then 2 else if 13312 ≤ r ∧ r ≤ 19903 then 2 else if 19968 ≤ r ∧ r ≤ 40959 then 2
 else if 44032 ≤ r ∧ r ≤ 55203 then 2 else if 55296 ≤ r ∧ r ≤ 63743 then 0 else if 63744 ≤ r ∧ r ≤ 64255 then 2 else if 65024 ≤ r ∧ r ≤ 65039 then 0 else if 65072 ≤ r ∧ r ≤ 65135 then 0
 else if 65280 ≤ r ∧ r ≤ 65295 then 0 else if 65520 ≤ r ∧ r ≤ 65535 then 0 else if 126976 ≤ r ∧ r ≤ 129791 then 0 else if 131072 ≤ r ∧ r ≤ 262143 then 2 else 1
def kindI (r : Int) : Nat := if r < 0 then 0 else kindN r.toNat
def lowC (r : Nat) : Nat :=
 if 65 ≤ r ∧ r ≤ 90 then r + 32 else if 192 ≤ r ∧ r ≤ 214 then r + 32 else if 216 ≤ r ∧ r ≤ 222 then r + 32
 else if 256 ≤ r ∧ r ≤ 303 then (if r % 2 = 0 then r + 1 else r) else if 306 ≤ r ∧ r ≤ 311 then (if r % 2 = 0 then r + 1 else r)
 else if 313 ≤ r ∧ r ≤ 328 then (if r % 2 = 1 then r + 1 else r) else if 330 ≤ r ∧ r ≤ 375 then (if r % 2 = 0 then r + 1 else r)
 else if r = 376 then 255 else if 377 ≤ r ∧ r ≤ 382 then (if r % 2 = 1 then r + 1 else r)
 else if r = 902 then 940 else if 904 ≤ r ∧ r ≤ 906 then r + 37 else if r = 908 then 972 else if 910 ≤ r ∧ r ≤ 911 then r + 63
 else if 913 ≤ r ∧ r ≤ 929 then r + 32 else if 931 ≤ r ∧ r ≤ 939 then r + 32 else if 1024 ≤ r ∧ r ≤ 1039 then r + 80 else if 1040 ≤ r ∧ r ≤ 1071 then r + 32 else r
theorem zda (r : Nat) (h : 1072 ≤ r) : lowC r = r := by
 unfold lowC
 rw [if_neg OM, if_neg OM, if_neg OM, if_neg OM, if_neg OM, if_neg OM, if_neg OM, if_neg OM, if_neg OM, if_neg OM, if_neg OM, if_neg OM, if_neg OM, if_neg OM, if_neg OM, if_neg OM, if_neg OM]
set_option maxRecDepth 100000 in
theorem zcL : ∀ r : Fin 1104, kindN (lowC r.val) = kindN r.val ∧ lowC (lowC r.val) = lowC r.val ∧ (enc (lowC r.val)).length = (enc r.val).length ∧ lowC r.val ≤ 1119 := by decide +kernel
theorem zqd (r : Nat) : kindN (lowC r) = kindN r := by
 by_cases h : r < 1104
 ·exact (zcL ⟨r, h⟩).1
 rw [zda r OM]
theorem zts (r : Nat) : lowC (lowC r) = lowC r := by
 by_cases h : r < 1104
 ·exact (zcL ⟨r, h⟩).2.1
 rw [zda r OM, zda r OM]
theorem zjJ (r : Nat) : (enc (lowC r)).length = (enc r).length := by
 by_cases h : r < 1104
 ·exact (zcL ⟨r, h⟩).2.2.1
 rw [zda r OM]
theorem zlT (r : Nat) (h : scal r) : scal (lowC r) := by
 by_cases h' : r < 1104
 ·have := (zcL ⟨r, h'⟩).2.2.2
  exact .inl (by simp only at this; omega)
 rw [zda r OM]; exact h
theorem zrs (r : Nat) (h : r ≤ 1114111) : lowC r ≤ 1114111 := by
 by_cases h' : r < 1104
 ·have := (zcL ⟨r, h'⟩).2.2.2
  simp only at this; omega
 rw [zda r OM]; exact h
theorem zpe : lowC 65533 = 65533 := zda _ OM
theorem zmB (r : Nat) (h : r ≠ 65533) : lowC r ≠ 65533 := by
 by_cases h' : r < 1104
 ·have := (zcL ⟨r, h'⟩).2.2.2
  simp only at this; omega
 rw [zda r OM]; exact h
theorem ztq {c : Prop} [Decidable c] {a b : Nat} (h1 : a ≤ 2) (h2 : b ≤ 2) : (if c then a else b) ≤ 2 := by split <;> assumption
theorem zlM (r : Nat) : kindN r ≤ 2 := by
 unfold kindN
 repeat (first | decide | refine ztq ?_ ?_)
def clsN (p : Nat × Nat) : Nat := if p.1 = 65533 then 0 else kindN p.1
theorem zkr : kindN 65533 = 0 := by decide
theorem zfV (p : Nat × Nat) : clsN p = kindN p.1 := by
 unfold clsN
 split
 ·rename_i h; rw [h, zkr]
 rfl
def usF : Nat → List UInt8 → List (Nat × Nat)
 | 0, _ => []
 | _ + 1, [] => []
 | n + 1, b :: t => (clsN (decodeL (b :: t)), (decodeL (b :: t)).2) :: usF n ((b :: t).drop (decodeL (b :: t)).2)
def us (l : List UInt8) : List (Nat × Nat) := usF l.length l
theorem zls : ∀ (n m : Nat) (l : List UInt8), l.length ≤ n → l.length ≤ m → usF n l = usF m l
 | 0, m, l, hn, _ => by
  have : l = [] := yan OM
  subst this
  cases m <;> rfl
 | n + 1, 0, l, _, hm => by
  have : l = [] := yan OM
  subst this; rfl
 | n + 1, m + 1, [], _, _ => rfl
 | n + 1, m + 1, b :: t, hn, hm => by
  have hw := decodeL_width (b :: t)
  simp only [usF]
  rw [zls n m _ (by rw [yau]; omega) (by rw [yau]; omega)]
theorem zen : us [] = [] := rfl
theorem us_step (l : List UInt8) (hne : l ≠ []) : us l = (clsN (decodeL l), (decodeL l).2) :: us (l.drop (decodeL l).2) := by
 obtain ⟨b, t, rfl⟩ := yaI hne
 have hw := decodeL_width (b :: t)
 show (clsN (decodeL (b :: t)), (decodeL (b :: t)).2) :: usF t.length _ = _
 rw [zls t.length ((b :: t).drop (decodeL (b :: t)).2).length _ (by rw [yau, yab]; omega) (yag _)]
 rfl
def foldF : Nat → List UInt8 → List UInt8
 | 0, _ => []
 | _ + 1, [] => []
 | n + 1, b :: t => (if (decodeL (b :: t)).1 = 65533 ∧ (decodeL (b :: t)).2 = 1 then [b] else enc (lowC (decodeL (b :: t)).1)) ++ foldF n ((b :: t).drop (decodeL (b :: t)).2)
def foldL (l : List UInt8) : List UInt8 := foldF l.length l
theorem zgA : ∀ (n m : Nat) (l : List UInt8), l.length ≤ n → l.length ≤ m → foldF n l = foldF m l
 | 0, m, l, hn, _ => by
  have : l = [] := yan OM
  subst this
  cases m <;> rfl
 | n + 1, 0, l, _, hm => by
  have : l = [] := yan OM
  subst this; rfl
 | n + 1, m + 1, [], _, _ => rfl
 | n + 1, m + 1, b :: t, hn, hm => by
  have hw := decodeL_width (b :: t)
  simp only [foldF]
  rw [zgA n m _ (by rw [yau]; omega) (by rw [yau]; omega)]
def head1 (l : List UInt8) : List UInt8 := if (decodeL l).1 = 65533 ∧ (decodeL l).2 = 1 then [l.getD 0 0] else enc (lowC (decodeL l).1)
theorem zoh : foldL [] = [] := rfl
theorem zbi (l : List UInt8) (hne : l ≠ []) : foldL l = head1 l ++ foldL (l.drop (decodeL l).2) := by
 obtain ⟨b, t, rfl⟩ := yaI hne
 have hw := decodeL_width (b :: t)
 show (if (decodeL (b :: t)).1 = 65533 ∧ (decodeL (b :: t)).2 = 1 then [b] else enc (lowC (decodeL (b :: t)).1)) ++ foldF t.length _ = _
 rw [zgA t.length ((b :: t).drop (decodeL (b :: t)).2).length _ (by rw [yau, yab]; omega) (yag _)]
 rfl
def close (f : Option Nat) (at_ : Nat) : List (Nat × Nat) := match f with | none => [] | some a => [(a, at_)]
def wd : List (Nat × Nat) → Nat → Option Nat → List (Nat × Nat)
 | [], p, f => close f p
 | (k, n) :: r, p, f =>
  if k = 0 then close f p ++ wd r (p + n) none
  else if k = 2 then close f p ++ (p, p + n) :: wd r (p + n) none
  else match f with
   | some a => if 40 < p + n - a then (a, p) :: wd r (p + n) (some p) else wd r (p + n) (some a)
   | none => wd r (p + n) (some p)
def cutL (l : List UInt8) (p : Nat × Nat) : List UInt8 := (l.take p.2).drop p.1
def wordsL (l : List UInt8) : List (List UInt8 × Nat × Nat) := (wd (us l) 0 none).map fun p => (foldL (cutL l p), p.1, p.2)
def cont (b : UInt8) : Prop := b.toNat / 64 = 2
theorem zfZ (c : Nat) (h : scal c) : ∃ b t, enc c = b :: t ∧ ¬ cont b ∧ ∀ x ∈ t, cont x := by
 unfold scal at h
 unfold enc encodeRune cont
 by_cases h1 : c < 128
 ·rw [encodeRuneZ_one OM OM]
  exact ⟨_, _, rfl, by rw [u8n _ OM]; omega, by simp⟩
 by_cases h2 : c ≤ 2047
 ·rw [encodeRuneZ_two OM OM]
  refine ⟨_, _, rfl, by rw [u8n _ OM]; omega, fun x hx => ?_⟩
  simp only [yas, ybg, yah, yaS, or_false] at hx
  subst hx; rw [u8n _ OM]; omega
 by_cases h3 : c ≤ 65535
 ·rw [encodeRuneZ_three OM]
  refine ⟨_, _, rfl, by rw [u8n _ OM]; omega, fun x hx => ?_⟩
  simp only [yas, ybg, yah, yaS, or_false] at hx
  rcases hx with rfl | rfl <;> (rw [u8n _ OM]; omega)
 rw [encodeRuneZ_four OM OM]
 refine ⟨_, _, rfl, by rw [u8n _ OM]; omega, fun x hx => ?_⟩
 simp only [yas, ybg, yah, yaS, or_false] at hx
 rcases hx with rfl | rfl | rfl <;> (rw [u8n _ OM]; omega)
theorem zdF (l : List UInt8) (c : Nat) (h : scal c) (e : l.take (enc c).length = enc c) : decodeL l = (c, (enc c).length) := by
 have h2 := yaB (enc c).length l
 rw [e] at h2
 have := zfN c h (l.drop (enc c).length)
 rw [h2] at this
 exact this
theorem bad_or (l : List UInt8) (hne : l ≠ []) : decodeL l = (65533, 1) ∨ ∃ c, scal c ∧ decodeL l = (c, (enc c).length) ∧ l.take (enc c).length = enc c := by
 rcases dec_whole l hne with h | ⟨h1, h2, h3, _⟩
 ·exact .inl h
 exact .inr ⟨_, h1, Prod.ext rfl h3, by rw [← h3]; exact h2⟩
theorem zkB (c : Nat) : (65533, 1) ≠ (c, (enc c).length) := by
 intro h
 injection h with h1 h2
 rw [← h1] at h2
 have := zfs
 omega
theorem zlH (l : List UInt8) (n : Nat) (hne : l ≠ []) (hn : (decodeL l).2 ≤ n) : decodeL (l.take n) = decodeL l := by
 have hw := decodeL_width l
 have hl : 0 < l.length := yaN.2 hne
 have hne' : l.take n ≠ [] := by
  intro h
  have := congrArg List.length h
  rw [yar, yaE] at this
  omega
 rcases bad_or l hne with h | ⟨c, hs, hd, ht⟩
 ·rcases bad_or (l.take n) hne' with h' | ⟨c, hs, hd, ht⟩
  ·rw [h, h']
  exfalso
  have hle := decodeL_le _ hne'
  rw [hd, yar] at hle
  simp only at hle
  rw [ybz, yaJ OM] at ht
  have := zdF l c hs ht
  rw [h] at this
  exact zkB c this
 rw [hd] at hn ⊢
 simp only at hn
 exact zdF _ c hs (by rw [ybz, yaJ hn]; exact ht)
theorem znk (x y : List UInt8) (hne : x ≠ []) (hy : ∀ b, y[0]? = some b → ¬ cont b) : decodeL (x ++ y) = decodeL x := by
 have hl : 0 < x.length := yaN.2 hne
 rcases bad_or x hne with h | ⟨c, hs, hd, ht⟩
 ·rcases bad_or (x ++ y) (by simp [hne]) with h' | ⟨c, hs, hd, ht⟩
  ·rw [h, h']
  exfalso
  by_cases hk : (enc c).length ≤ x.length
  ·rw [List.take_append_of_le_length hk] at ht
   have := zdF x c hs ht
   rw [h] at this
   exact zkB c this
  obtain ⟨b, t, e1, e2, e3⟩ := zfZ c hs
  have hle := decodeL_le (x ++ y) (by simp [hne])
  rw [hd, yaa] at hle
  simp only at hle
  obtain ⟨z, r, rfl⟩ := yaI (l := y) (by rintro rfl; simp at hle; omega)
  have hx : (enc c)[x.length]? = some z := by
   rw [← ht, List.getElem?_take, if_pos OM, List.getElem?_append_right (yag _), ycb]; rfl
  rw [e1] at hx
  obtain ⟨m, hm⟩ : ∃ m, x.length = m + 1 := ⟨x.length - 1, OM⟩
  rw [hm, List.getElem?_cons_succ] at hx
  exact hy z rfl (e3 z (List.mem_of_getElem? hx))
 rw [hd]
 have hle := decodeL_le x hne
 rw [hd] at hle
 simp only at hle
 exact zdF _ c hs (by rw [List.take_append_of_le_length hle]; exact ht)
def Alike (t t' : List UInt8) : Prop := ∃ p q q', t = p ++ q ∧ t' = p ++ q' ∧ (∀ b ∈ p, cont b) ∧ (∀ b, q[0]? = some b → ¬ cont b) ∧ ∀ b, q'[0]? = some b → ¬ cont b
theorem zot (b : UInt8) {t t' : List UInt8} (h : Alike t t') (hb : decodeL (b :: t) = (65533, 1)) : decodeL (b :: t') = (65533, 1) := by
 obtain ⟨p, q, q', rfl, rfl, hp, hq, hq'⟩ := h
 rcases bad_or (b :: (p ++ q')) (by simp) with h' | ⟨c, hs, hd, ht⟩
 ·exact h'
 exfalso
 have e1 : decodeL (b :: (p ++ q)) = decodeL (b :: p) := znk (b :: p) q (by simp) hq
 have e2 : decodeL (b :: (p ++ q')) = decodeL (b :: p) := znk (b :: p) q' (by simp) hq'
 rw [e1] at hb
 rw [e2, hb] at hd
 exact zkB c hd
theorem head1_shape (l : List UInt8) (hne : l ≠ []) : (decodeL l = (65533, 1) ∧ ∃ b t, l = b :: t ∧ head1 l = [b]) ∨ ∃ c, scal c ∧ decodeL l = (c, (enc c).length) ∧ head1 l = enc (lowC c) ∧ ∃ b t, l = b :: t ∧ ¬ cont b := by
 obtain ⟨b, t, rfl⟩ := yaI hne
 rcases bad_or (b :: t) hne with h | ⟨c, hs, hd, ht⟩
 ·exact .inl ⟨h, b, t, rfl, by unfold head1; rw [h]; rfl⟩
 refine .inr ⟨c, hs, hd, ?_, b, t, rfl, ?_⟩
 ·unfold head1
  rw [hd, if_neg]
  rintro ⟨h1, h2⟩
  simp only at h1 h2
  subst h1
  rw [zfs] at h2; omega
 obtain ⟨x, y, e1, e2, _⟩ := zfZ c hs
 rw [e1] at ht
 simp only [yab, ybR, List.cons.injEq] at ht
 rw [ht.1]; exact e2
theorem zdJ (l : List UInt8) (hne : l ≠ []) : (head1 l).length = (decodeL l).2 := by
 rcases head1_shape l hne with ⟨h, b, t, _, e⟩ | ⟨c, hs, hd, e, _⟩
 ·rw [h, e]; rfl
 rw [hd, e, zjJ]
theorem zmK (t : List UInt8) : Alike t (foldL t) := by
 induction t using zcR with
 | nil => exact ⟨[], [], [], rfl, rfl, by simp, by simp, by simp⟩
 | step l hne ih =>
  rw [zbi l hne]
  rcases head1_shape l hne with ⟨h, b, t, rfl, e⟩ | ⟨c, hs, hd, e, b, t, rfl, hb⟩
  ·rw [h] at ih ⊢
   simp only [List.drop_succ_cons, List.drop_zero] at ih ⊢
   rw [e]
   by_cases hc : cont b
   ·obtain ⟨p, q, q', e1, e2, hp, hq, hq'⟩ := ih
    exact ⟨b :: p, q, q', by rw [e1]; rfl, by rw [e2]; rfl, fun x hx => by rcases yah.1 hx with rfl | hx; exact hc; exact hp x hx, hq, hq'⟩
   exact ⟨[], b :: t, b :: foldL t, rfl, rfl, by simp, fun x hx => by cases hx; exact hc, fun x hx => by cases hx; exact hc⟩
  rw [e]
  obtain ⟨x, y, e1, e2, _⟩ := zfZ (lowC c) (zlT c hs)
  exact ⟨[], _, _, rfl, rfl, by simp, fun z hz => by cases hz; exact hb, fun z hz => by rw [e1] at hz; cases hz; exact e2⟩
theorem dec_fold (l : List UInt8) (hne : l ≠ []) : decodeL (foldL l) = (lowC (decodeL l).1, (decodeL l).2) := by
 rw [zbi l hne]
 rcases head1_shape l hne with ⟨h, b, t, rfl, e⟩ | ⟨c, hs, hd, e, _⟩
 ·rw [e, h]
  simp only [List.drop_succ_cons, List.drop_zero, zpe]
  exact zot b (zmK t) h
 rw [e, hd, zfN _ (zlT c hs), zjJ]
theorem zoT (l : List UInt8) (hne : l ≠ []) : foldL l ≠ [] := by
 rw [zbi l hne]
 have := zdJ l hne
 have hw := decodeL_width l
 intro h
 have h := congrArg List.length h
 rw [yaa, yaE] at h
 omega
theorem zjm (l : List UInt8) (hne : l ≠ []) : (foldL l).drop (decodeL l).2 = foldL (l.drop (decodeL l).2) := by
 rw [zbi l hne, ← zdJ l hne, List.drop_left']
 rfl
theorem zqg (p : Nat × Nat) (k : Nat) : clsN (lowC p.1, k) = clsN p := by rw [zfV, zfV, zqd]
theorem ztv (l : List UInt8) : us (foldL l) = us l := by
 induction l using zcR with
 | nil => rfl
 | step l hne ih =>
  rw [us_step _ (zoT l hne), dec_fold l hne, us_step l hne]
  simp only
  rw [zjm l hne, ih, zqg]
theorem fold_fold (l : List UInt8) : foldL (foldL l) = foldL l := by
 induction l using zcR with
 | nil => rfl
 | step l hne ih =>
  rw [zbi _ (zoT l hne), dec_fold l hne]
  simp only
  rw [zjm l hne, ih]
  conv => rhs; rw [zbi l hne]
  congr 1
  unfold head1
  rw [dec_fold l hne]
  simp only
  have hd0 : (foldL l).getD 0 0 = (head1 l).getD 0 0 := by
   have h1 := zdJ l hne
   have hw := decodeL_width l
   rw [zbi l hne]
   obtain ⟨x, y, e⟩ := yaI (l := head1 l) (by intro h; rw [h] at h1; simp at h1; omega)
   rw [e]; rfl
  by_cases hb : (decodeL l).1 = 65533 ∧ (decodeL l).2 = 1
  ·rw [if_pos hb, if_pos ⟨by rw [hb.1]; exact zpe, hb.2⟩, hd0]
   unfold head1
   rw [if_pos hb]; rfl
  have : ¬ (lowC (decodeL l).1 = 65533 ∧ (decodeL l).2 = 1) := fun h => hb ⟨by
   by_cases hx : (decodeL l).1 = 65533
   ·exact hx
   exact absurd h.1 (zmB _ hx), h.2⟩
  rw [if_neg hb, if_neg this, zts]
inductive Bd : List UInt8 → Nat → Prop
 | zero (l : List UInt8) : Bd l 0
 | step (l : List UInt8) (n : Nat) : l ≠ [] → Bd (l.drop (decodeL l).2) n → Bd l ((decodeL l).2 + n)
end Go.Cs
namespace Go.Cs
def cutT : List (Int × Int × Int) := [(215, 215, 0), (247, 247, 0), (8192, 11263, 0), (11904, 12255, 2), (12288, 12351, 0), (12353, 12543, 2), (12549, 12591, 2), (12593, 12686, 2), (13312, 19903, 2), (19968, 40959, 2), (44032, 55203, 2), (55296, 63743, 0), (63744, 64255, 2), (65024, 65039, 0), (65072, 65135, 0), (65280, 65295, 0), (65520, 65535, 0), (126976, 129791, 0), (131072, 262143, 2)]
def cutSp (i : Nat) : Int × Int × Int := cutT.getD i (0, 0, 0)
def foldT : List (Int × Int × Int × Int) := [(65, 90, 1, 32), (192, 214, 1, 32), (216, 222, 1, 32), (256, 303, 2, 1), (306, 311, 2, 1), (313, 328, 2, 1), (330, 375, 2, 1), (376, 376, 1, -121), (377, 382, 2, 1), (902, 902, 1, 38), (904, 906, 1, 37), (908, 908, 1, 64), (910, 911, 1, 63), (913, 929, 1, 32), (931, 939, 1, 32), (1024, 1039, 1, 80), (1040, 1071, 1, 32)]
def foldSp (i : Nat) : Int × Int × Int × Int := foldT.getD i (0, 0, 0, 0)
def cmp3 (a b : Int) : Int := if a < b then -1 else if b < a then 1 else 0
def cmpC (i : Nat) (r : Int) : Int := if (cutSp i).1 ≤ r ∧ r ≤ (cutSp i).2.1 then 0 else cmp3 (cutSp i).1 r
def cmpF (i : Nat) (r : Int) : Int := if (foldSp i).2.1 < r then -1 else if r < (foldSp i).1 then 1 else 0
theorem zfC : ∀ i : Fin 19, (cutSp i.val).1 ≤ (cutSp i.val).2.1 ∧ 0 ≤ (cutSp i.val).1 ∧ (cutSp i.val).2.1 ≤ 1114111 ∧ 0 ≤ (cutSp i.val).2.2 ∧ (cutSp i.val).2.2 ≤ 2 := by decide
theorem znY : ∀ i j : Fin 19, i.val < j.val → (cutSp i.val).2.1 < (cutSp j.val).1 := by decide
theorem zgX : ∀ i : Fin 17, (foldSp i.val).1 ≤ (foldSp i.val).2.1 ∧ 0 ≤ (foldSp i.val).1 ∧ (foldSp i.val).2.1 ≤ 1114111 ∧ 1 ≤ (foldSp i.val).2.2.1 ∧ (foldSp i.val).2.2.1 ≤ 2 ∧ -200 ≤ (foldSp i.val).2.2.2 ∧ (foldSp i.val).2.2.2 ≤ 200 := by decide
theorem zlR : ∀ i j : Fin 17, i.val < j.val → (foldSp i.val).2.1 < (foldSp j.val).1 := by decide
theorem zll (i : Nat) (hi : i < 19) (r : Int) : cmpC i r < 0 ↔ (cutSp i).2.1 < r := by
 have := zfC ⟨i, hi⟩
 simp only at this
 unfold cmpC cmp3
 repeat' split
 all_goals omega
theorem zit (i j : Nat) (h : i < j) (hj : j < 19) (r : Int) (hr : cmpC j r < 0) : cmpC i r < 0 := by
 rw [zll _ OM] at *
 have h1 := zfC ⟨j, hj⟩
 have h2 := znY ⟨i, OM⟩ ⟨j, hj⟩ h
 simp only at h1 h2
 omega
theorem zkz (i : Nat) (r : Int) : cmpF i r < 0 ↔ (foldSp i).2.1 < r := by
 unfold cmpF
 repeat' split
 all_goals omega
theorem ziN (i j : Nat) (h : i < j) (hj : j < 17) (r : Int) (hr : cmpF j r < 0) : cmpF i r < 0 := by
 rw [zkz] at *
 have h1 := zgX ⟨j, hj⟩
 have h2 := zlR ⟨i, OM⟩ ⟨j, hj⟩ h
 simp only at h1 h2
 omega
def Pos (cmp : Nat → Int) (n k : Nat) : Prop := k ≤ n ∧ (∀ m, m < k → cmp m < 0) ∧ ∀ m, k ≤ m → m < n → 0 ≤ cmp m
theorem zmT (k : Nat) (r : Int) (h : cmpC k r = 0) (hk : k < 19) : (cutSp k).1 ≤ r ∧ r ≤ (cutSp k).2.1 := by
 have := zfC ⟨k, hk⟩
 simp only at this
 unfold cmpC cmp3 at h
 split at h
 ·assumption
 repeat' split at h
 all_goals omega
theorem zql (k : Nat) (r : Int) (hp : Pos (fun i => cmpC i r) 19 k) (hn : ¬ (k < 19 ∧ cmpC k r = 0)) (m : Nat) (hm : m < 19) : ¬ ((cutSp m).1 ≤ r ∧ r ≤ (cutSp m).2.1) := by
 obtain ⟨h1, h2, h3⟩ := hp
 intro hc
 have h0 : cmpC m r = 0 := by unfold cmpC; rw [if_pos hc]
 have hge : ¬ m < k := fun h => by have := h2 m h; dsimp only at this; omega
 by_cases e : m = k
 ·exact hn ⟨OM, by rw [← e]; exact h0⟩
 have h4 := h3 k (yag _) OM
 dsimp only at h4
 have h5 : ¬ cmpC k r < 0 := OM
 rw [zll k OM] at h5
 have h6 := znY ⟨k, OM⟩ ⟨m, hm⟩ (by simp only; omega)
 simp only at h6
 omega
theorem zmy (k : Nat) (hk : k < 19) (r : Nat) (h192 : 192 ≤ r) (hr : r ≤ 1114111) (h : (cutSp k).1 ≤ (r : Int) ∧ (r : Int) ≤ (cutSp k).2.1) : ((kindN r : Nat) : Int) = (cutSp k).2.2 := by
 match k, hk with
 | 0, _ | 1, _ | 2, _ | 3, _ | 4, _ | 5, _ | 6, _ | 7, _ | 8, _ | 9, _ | 10, _ | 11, _ | 12, _ | 13, _ | 14, _ | 15, _ | 16, _ | 17, _ | 18, _ =>
  simp only [cutSp, cutT, yaR, ybc] at h ⊢
  unfold kindN
  repeat (first | rw [if_pos OM] | rw [if_neg OM])
  try rfl
 | n + 19, hk => omega
theorem zqQ (r : Nat) (h192 : 192 ≤ r) (hr : r ≤ 1114111) (h : ∀ m, m < 19 → ¬ ((cutSp m).1 ≤ (r : Int) ∧ (r : Int) ≤ (cutSp m).2.1)) : kindN r = 1 := by
 have h0 := h 0 OM; have h1 := h 1 OM; have h2 := h 2 OM; have h3 := h 3 OM; have h4 := h 4 OM; have h5 := h 5 OM; have h6 := h 6 OM
 have h7 := h 7 OM; have h8 := h 8 OM; have h9 := h 9 OM; have h10 := h 10 OM; have h11 := h 11 OM; have h12 := h 12 OM; have h13 := h 13 OM
 have h14 := h 14 OM; have h15 := h 15 OM; have h16 := h 16 OM; have h17 := h 17 OM; have h18 := h 18 OM
 clear h
 simp only [cutSp, cutT, yaR, ybc] at h0 h1 h2 h3 h4 h5 h6 h7 h8 h9 h10 h11 h12 h13 h14 h15 h16 h17 h18
 unfold kindN
 repeat (first | rw [if_pos OM] | rw [if_neg OM])
theorem znD (k : Nat) (r : Int) (h : cmpF k r = 0) : (foldSp k).1 ≤ r ∧ r ≤ (foldSp k).2.1 := by
 unfold cmpF at h
 repeat' split at h
 all_goals omega
theorem zqa (k : Nat) (r : Int) (hp : Pos (fun i => cmpF i r) 17 k) (hn : ¬ (k < 17 ∧ cmpF k r = 0)) (m : Nat) (hm : m < 17) : ¬ ((foldSp m).1 ≤ r ∧ r ≤ (foldSp m).2.1) := by
 obtain ⟨h1, h2, h3⟩ := hp
 intro hc
 have h0 : cmpF m r = 0 := by unfold cmpF; rw [if_neg OM, if_neg OM]
 have hge : ¬ m < k := fun h => by have := h2 m h; dsimp only at this; omega
 by_cases e : m = k
 ·exact hn ⟨OM, by rw [← e]; exact h0⟩
 have h4 := h3 k (yag _) OM
 dsimp only at h4
 have h5 : ¬ cmpF k r < 0 := OM
 rw [zkz] at h5
 have h6 := zlR ⟨k, OM⟩ ⟨m, hm⟩ (by simp only; omega)
 simp only at h6
 omega
theorem zow (k : Nat) (hk : k < 17) (r : Nat) (h : (foldSp k).1 ≤ (r : Int) ∧ (r : Int) ≤ (foldSp k).2.1) : ((lowC r : Nat) : Int) = if ((r : Int) - (foldSp k).1) % (foldSp k).2.2.1 = 0 then (r : Int) + (foldSp k).2.2.2 else r := by
 match k, hk with
 | 0, _ | 1, _ | 2, _ | 3, _ | 4, _ | 5, _ | 6, _ | 7, _ | 8, _ | 9, _ | 10, _ | 11, _ | 12, _ | 13, _ | 14, _ | 15, _ | 16, _ =>
  simp only [foldSp, foldT, yaR, ybc] at h ⊢
  unfold lowC
  repeat (first | rw [if_pos OM] | rw [if_neg OM])
  try (repeat' split)
  all_goals omega
 | n + 17, hk => omega
theorem ztt (r : Nat) (h : ∀ m, m < 17 → ¬ ((foldSp m).1 ≤ (r : Int) ∧ (r : Int) ≤ (foldSp m).2.1)) : lowC r = r := by
 have h0 := h 0 OM; have h1 := h 1 OM; have h2 := h 2 OM; have h3 := h 3 OM; have h4 := h 4 OM; have h5 := h 5 OM; have h6 := h 6 OM
 have h7 := h 7 OM; have h8 := h 8 OM; have h9 := h 9 OM; have h10 := h 10 OM; have h11 := h 11 OM; have h12 := h 12 OM; have h13 := h 13 OM
 have h14 := h 14 OM; have h15 := h 15 OM; have h16 := h 16 OM
 clear h
 simp only [foldSp, foldT, yaR, ybc] at h0 h1 h2 h3 h4 h5 h6 h7 h8 h9 h10 h11 h12 h13 h14 h15 h16
 unfold lowC
 repeat (first | rw [if_pos OM] | rw [if_neg OM])
end Go.Cs
namespace Go.Cs
open Go.Lib
theorem zmA (c : Nat) (h : scal c) : runeLen (c : Int) = ((enc c).length : Nat) := by
 unfold scal at h
 unfold enc encodeRune runeLen
 rw [if_neg OM]
 by_cases h1 : c < 128
 ·rw [if_pos OM, encodeRuneZ_one OM OM]; rfl
 by_cases h2 : c ≤ 2047
 ·rw [if_neg OM, if_pos OM, encodeRuneZ_two OM OM]; rfl
 by_cases h3 : c ≤ 65535
 ·rw [if_neg OM, if_neg OM, if_neg OM, if_pos OM, encodeRuneZ_three OM]; rfl
 rw [if_neg OM, if_neg OM, if_neg OM, if_neg OM, if_pos OM, encodeRuneZ_four OM OM]; rfl
def mk (l : List UInt8) (p : Nat × Nat) : List UInt8 × Nat × Nat := (foldL (cutL l p), p.1, p.2)
theorem zjq (l : List UInt8) : wordsL l = (wd (us l) 0 none).map (mk l) := rfl
def frI (f : Option Nat) : Int := match f with | none => -1 | some a => a
theorem wd_0 (n : Nat) (r : List (Nat × Nat)) (p : Nat) (f : Option Nat) : wd ((0, n) :: r) p f = close f p ++ wd r (p + n) none := rfl
theorem wd_2 (n : Nat) (r : List (Nat × Nat)) (p : Nat) (f : Option Nat) : wd ((2, n) :: r) p f = close f p ++ (p, p + n) :: wd r (p + n) none := rfl
theorem wd_1n (n : Nat) (r : List (Nat × Nat)) (p : Nat) : wd ((1, n) :: r) p none = wd r (p + n) (some p) := rfl
theorem wd_1s (n : Nat) (r : List (Nat × Nat)) (p a : Nat) : wd ((1, n) :: r) p (some a) = if 40 < p + n - a then (a, p) :: wd r (p + n) (some p) else wd r (p + n) (some a) := rfl
theorem Bd.snoc {l : List UInt8} {n : Nat} (h : Bd l n) : l.drop n ≠ [] → Bd l (n + (decodeL (l.drop n)).2) := by
 induction h with
 | zero l => intro hne; rw [List.drop_zero] at *; rw [yaU]; exact .step l 0 hne (.zero _)
 | step l n hne _ ih =>
  intro h
  rw [← yaM] at h
  have := ih h
  rw [← yaM, ybT]
  exact .step l _ hne this
theorem wd_bd (l : List UInt8) : ∀ (d m : Nat) (f : Option Nat), l.length - m ≤ d → Bd l m → (∀ a, f = some a → Bd l a ∧ a ≤ m) → ∀ p ∈ wd (us (l.drop m)) m f, Bd l p.1 ∧ Bd l p.2 ∧ p.1 ≤ p.2 := by
 intro d
 induction d with
 | zero =>
  intro m f hd hm hf p hp
  rw [yaP OM, zen] at hp
  cases f with
  | none => simp [wd, close] at hp
  | some a =>
   simp only [wd, close, yac] at hp
   subst hp
   exact ⟨(hf a rfl).1, hm, (hf a rfl).2⟩
 | succ d ih =>
  intro m f hd hm hf p hp
  have hcl : p ∈ close f m → Bd l p.1 ∧ Bd l p.2 ∧ p.1 ≤ p.2 := by
   intro hp
   cases f with
   | none => simp [close] at hp
   | some a =>
    simp only [close, yac] at hp
    subst hp
    exact ⟨(hf a rfl).1, hm, (hf a rfl).2⟩
  by_cases hne : l.drop m = []
  ·rw [hne, zen] at hp; exact hcl hp
  have hs := hm.snoc hne
  have hw := decodeL_width (l.drop m)
  have hlt : m < l.length := by
   apply Classical.byContradiction; intro h
   exact hne (yaP OM)
  rw [us_step _ hne, yaM] at hp
  generalize (decodeL (l.drop m)).2 = n at *
  have go := fun f' hf' => ih (m + n) f' OM hs hf' p
  simp only [wd] at hp
  split at hp
  ·rcases yaj.1 hp with h | h
   ·exact hcl h
   exact go none (fun a h => by cases h) h
  split at hp
  ·rcases yaj.1 hp with h | h
   ·exact hcl h
   rcases yah.1 h with h | h
   ·subst h; exact ⟨hm, hs, OM⟩
   exact go none (fun a h => by cases h) h
  split at hp
  ·rename_i a
   split at hp
   ·rcases yah.1 hp with h | h
    ·subst h; exact ⟨(hf a rfl).1, hm, (hf a rfl).2⟩
    exact go (some m) (fun a h => by injection h with h; subst h; exact ⟨hm, OM⟩) h
   exact go (some a) (fun b h => by injection h with h; subst h; exact ⟨(hf a rfl).1, by have := (hf a rfl).2; omega⟩) hp
  exact go (some m) (fun a h => by injection h with h; subst h; exact ⟨hm, OM⟩) hp
theorem zoB (l : List UInt8) (p : Nat × Nat) (hp : p ∈ wd (us l) 0 none) : Bd l p.1 ∧ Bd l p.2 ∧ p.1 ≤ p.2 :=
 wd_bd l l.length 0 none OM (.zero l) (fun a h => by cases h) p (by simpa using hp)
def W (u : List (Nat × Nat)) : Nat := (u.map (·.2)).sum
theorem W_nil : W [] = 0 := rfl
theorem W_cons (q : Nat × Nat) (u : List (Nat × Nat)) : W (q :: u) = q.2 + W u := by simp [W]
theorem W_app (u v : List (Nat × Nat)) : W (u ++ v) = W u + W v := by simp [W]
def Ones (u : List (Nat × Nat)) : Prop := u ≠ [] ∧ (∀ q ∈ u, q.1 = 1) ∧ W u ≤ 40
def Seg (u : List (Nat × Nat)) : Prop := Ones u ∨ ∃ n, u = [(2, n)]
def Stops (r : List (Nat × Nat)) : Prop := r = [] ∨ ∃ n t, r = (0, n) :: t
theorem zoY (r : List (Nat × Nat)) (hr : Stops r) : ∀ (u : List (Nat × Nat)) (q a : Nat), (∀ x ∈ u, x.1 = 1) → q + W u ≤ a + 40 → wd (u ++ r) q (some a) = (a, q + W u) :: wd r (q + W u) none
 | [], q, a, _, _ => by
  rcases hr with rfl | ⟨n, t, rfl⟩
  ·simp [wd, close, W_nil]
  simp only [yaT, W_nil, ybJ]
  rw [wd_0, wd_0]; simp [close]
 | (k, n) :: u, q, a, h1, h2 => by
  have hk : k = 1 := h1 (k, n) (by simp)
  subst hk
  rw [W_cons] at h2
  rw [List.cons_append, wd_1s, if_neg (by dsimp only at h2; omega), zoY r hr u (q + n) a (fun x hx => h1 x (by simp [hx])) (by dsimp only at h2; omega), W_cons, Nat.add_assoc]
theorem zmM (u r : List (Nat × Nat)) (hu : Seg u) (hr : Stops r) (q : Nat) : wd (u ++ r) q none = (q, q + W u) :: wd r (q + W u) none := by
 rcases hu with ⟨hne, h1, h2⟩ | ⟨n, rfl⟩
 ·match u, hne with
  | (k, n) :: u, _ =>
   have hk : k = 1 := h1 (k, n) (by simp)
   subst hk
   rw [W_cons] at h2
   rw [List.cons_append, wd_1n, zoY r hr u (q + n) q (fun x hx => h1 x (by simp [hx])) (by dsimp only at h2; omega), W_cons, Nat.add_assoc]
 rw [yaW, yaT, wd_2]; simp [close, W_cons, W_nil]
theorem zko (u0 : List (Nat × Nat)) : ∀ (r pre mid : List (Nat × Nat)) (f : Option Nat), u0 = pre ++ mid ++ r → (∀ q ∈ r, q.1 ≤ 2 ∧ q.2 ≤ 4) → ((f = none ∧ mid = []) ∨ (f = some (W pre) ∧ Ones mid)) →
  ∀ p ∈ wd r (W pre + W mid) f, ∃ a b c, u0 = a ++ b ++ c ∧ p = (W a, W a + W b) ∧ Seg b
 | [], pre, mid, f, he, _, hf, p, hp => by
  rcases hf with ⟨rfl, rfl⟩ | ⟨rfl, ho⟩
  ·simp [wd, close] at hp
  simp only [wd, close, yac] at hp
  exact ⟨pre, mid, [], he, hp, .inl ho⟩
 | (k, n) :: r, pre, mid, f, he, hk, hf, p, hp => by
  have hk0 := hk (k, n) (by simp)
  have hkr : ∀ q ∈ r, q.1 ≤ 2 ∧ q.2 ≤ 4 := fun q hq => hk q (by simp [hq])
  have hcl : p ∈ close f (W pre + W mid) → ∃ a b c, u0 = a ++ b ++ c ∧ p = (W a, W a + W b) ∧ Seg b := by
   intro hp
   rcases hf with ⟨rfl, rfl⟩ | ⟨rfl, ho⟩
   ·simp [close] at hp
   simp only [close, yac] at hp
   exact ⟨pre, mid, (k, n) :: r, he, hp, .inl ho⟩
  have e1 : W (pre ++ mid ++ [(k, n)]) + W [] = W pre + W mid + n := by simp only [W_app, W_cons, W_nil]; omega
  have g1 := zko u0 r (pre ++ mid ++ [(k, n)]) [] none (by rw [he]; simp) hkr (.inl ⟨rfl, rfl⟩) p
  rw [e1] at g1
  simp only [wd] at hp
  split at hp
  ·rcases yaj.1 hp with h | h
   ·exact hcl h
   exact g1 h
  split at hp
  ·rename_i hk2
   rcases yaj.1 hp with h | h
   ·exact hcl h
   rcases yah.1 h with h | h
   ·exact ⟨pre ++ mid, [(k, n)], r, by rw [he]; simp, by rw [h]; simp only [W_app, W_cons, W_nil, ybJ], .inr ⟨n, by rw [hk2]⟩⟩
   exact g1 h
  rename_i h0 h2
  have hk1 : k = 1 := by dsimp only at hk0; omega
  subst hk1
  have hone : Ones [(1, n)] := ⟨by simp, by simp, by simp only [W_cons, W_nil]; dsimp only at hk0 ⊢; omega⟩
  have e2 : W (pre ++ mid) + W [(1, n)] = W pre + W mid + n := by simp only [W_app, W_cons, W_nil]; omega
  have g2 := zko u0 r (pre ++ mid) [(1, n)] (some (W (pre ++ mid))) (by rw [he]; simp) hkr (.inr ⟨rfl, hone⟩) p
  rw [e2, W_app] at g2
  rcases hf with ⟨rfl, rfl⟩ | ⟨rfl, ho⟩
  ·exact g2 hp
  simp only at hp
  split at hp
  ·rcases yah.1 hp with h | h
   ·exact ⟨pre, mid, (1, n) :: r, he, h, .inl ho⟩
   exact g2 h
  rename_i h40
  have ho3 : Ones (mid ++ [(1, n)]) := ⟨by simp, fun q hq => by
   rcases yaj.1 hq with h | h
   ·exact ho.2.1 q h
   simp at h; rw [h], by simp only [W_app, W_cons, W_nil]; omega⟩
  have g3 := zko u0 r pre (mid ++ [(1, n)]) (some (W pre)) (by rw [he]; simp) hkr (.inr ⟨rfl, ho3⟩) p
  rw [show W pre + W (mid ++ [(1, n)]) = W pre + W mid + n by simp only [W_app, W_cons, W_nil]; omega] at g3
  exact g3 hp
theorem zhJ (l : List UInt8) : ∀ q ∈ us l, q.1 ≤ 2 ∧ q.2 ≤ 4 := by
 induction l using zcR with
 | nil => simp [zen]
 | step l hne ih =>
  rw [us_step l hne]
  intro q hq
  rcases yah.1 hq with rfl | h
  ·have hw : (decodeL l).2 ≤ 4 := by
    rcases bad_or l hne with h | ⟨c, _, h, _⟩
    ·rw [h]; decide
    rw [h]; exact (zcT c).2
   refine ⟨?_, hw⟩
   rw [zfV]; exact zlM _
  exact ih q h
theorem us_W (l : List UInt8) : W (us l) = l.length := by
 induction l using zcR with
 | nil => rfl
 | step l hne ih =>
  have := decodeL_le l hne
  rw [us_step l hne, W_cons, ih, yau]
  omega
theorem znz : ∀ (a b : List (Nat × Nat)) (l : List UInt8), us l = a ++ b → us (l.drop (W a)) = b
 | [], b, l, h => by simpa [W_nil] using h
 | q :: a, b, l, h => by
  by_cases hne : l = []
  ·subst hne; rw [zen] at h; simp at h
  rw [us_step l hne, yaW] at h
  injection h with h1 h2
  have := znz a b _ h2
  rw [yaM] at this
  rw [W_cons, ← h1]
  exact this
theorem zlw : ∀ (a b : List (Nat × Nat)) (l : List UInt8), us l = a ++ b → us (l.take (W a)) = a
 | [], b, l, h => by simp [W_nil, zen]
 | q :: a, b, l, h => by
  by_cases hne : l = []
  ·subst hne; rw [zen] at h; simp at h
  rw [us_step l hne, yaW] at h
  injection h with h1 h2
  have h3 := zlw a b _ h2
  have hw := decodeL_width l
  have hl : 0 < l.length := yaN.2 hne
  have hq : q.2 = (decodeL l).2 := by rw [← h1]
  have hd := zlH l (q.2 + W a) hne OM
  have hne' : l.take (q.2 + W a) ≠ [] := by
   intro e
   have := congrArg List.length e
   rw [yar, yaE] at this
   omega
  rw [W_cons, us_step _ hne', hd, h1, List.drop_take, hq, ybw, h3]
theorem zua {a b c : List (Nat × Nat)} {l : List UInt8} (h : us l = a ++ b ++ c) : us (cutL l (W a, W a + W b)) = b := by
 unfold cutL
 dsimp only
 have h1 := zlw (a ++ b) c l h
 rw [W_app] at h1
 exact znz a b _ h1
theorem zok (l : List UInt8) (p : Nat × Nat) (hp : p ∈ wd (us l) 0 none) : Seg (us (cutL l p)) := by
 obtain ⟨a, b, c, h1, h2, h3⟩ := zko (us l) (us l) [] [] none rfl (zhJ l) (.inl ⟨rfl, rfl⟩) p hp
 rw [h2, zua h1]
 exact h3
def znj (x : List UInt8) : Prop := Seg (us x) ∧ foldL x = x
theorem zfx (l : List UInt8) (x : List UInt8 × Nat × Nat) (hx : x ∈ wordsL l) : znj x.1 := by
 unfold wordsL at hx
 obtain ⟨p, hp, rfl⟩ := yay.1 hx
 exact ⟨by rw [ztv]; exact zok l p hp, fold_fold _⟩
theorem zkn {x : List UInt8} (h : znj x) : x.length ≤ 40 := by
 rw [← us_W]
 rcases h.1 with ⟨_, _, h⟩ | ⟨n, h⟩
 ·exact h
 have := zhJ x (2, n) (by rw [h]; simp)
 rw [h, W_cons, W_nil]; dsimp only at this ⊢; omega
theorem zmg {x : List UInt8} (h : znj x) : wordsL x = [(x, 0, x.length)] := by
 have := zmM (us x) [] h.1 (.inl rfl) 0
 rw [yaA, us_W, yaU] at this
 unfold wordsL
 rw [this]
 simp [wd, close, cutL, h.2]
end Go.Cs
