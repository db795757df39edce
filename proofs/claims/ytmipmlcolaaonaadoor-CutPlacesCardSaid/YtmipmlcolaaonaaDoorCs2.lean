/- Helper text of this claim: Cs2: lemmas and contracts that the proved statement rests on; no conditions of its own. -/
import Derived.Test.YtmipmlcolaaonaaDoorCs1
namespace Go.Cs
open Go.Lib
set_option linter.unusedVariables false
/-! ### Names of character sets, bytewise decoders -/
def lowerB (b : UInt8) : UInt8 := if 65 ≤ b.toNat ∧ b.toNat ≤ 90 then (b.toNat + 32).toUInt8 else b
def nmUsAscii : List UInt8 := [117, 115, 45, 97, 115, 99, 105, 105]
def nmAscii : List UInt8 := [97, 115, 99, 105, 105]
def nmUtf_8 : List UInt8 := [117, 116, 102, 45, 56]
def nmUtf8 : List UInt8 := [117, 116, 102, 56]
def nmIso : List UInt8 := [105, 115, 111, 45, 56, 56, 53, 57, 45, 49]
def nmLatin1 : List UInt8 := [108, 97, 116, 105, 110, 49]
def nmWin : List UInt8 := [119, 105, 110, 100, 111, 119, 115, 45, 49, 50, 53, 50]
def nmCp : List UInt8 := [99, 112, 49, 50, 53, 50]
def kindL (m : List UInt8) : Nat :=
  if m = nmUsAscii then 1 else if m = nmAscii then 1 else if m = nmUtf_8 then 2 else if m = nmUtf8 then 2 else if m = nmIso then 3 else if m = nmLatin1 then 3 else if m = nmWin then 4 else if m = nmCp then 4 else 0
def kind (l : List UInt8) : Nat := kindL (l.map lowerB)
def highT : List Nat := [8364, 129, 8218, 402, 8222, 8230, 8224, 8225, 710, 8240, 352, 8249, 338, 141, 381, 143, 144, 8216, 8217, 8220, 8221, 8226, 8211, 8212, 732, 8482, 353, 8250, 339, 157, 382, 376]
/-- The code point of a byte. -/
def sgn (k : Nat) (b : UInt8) : Nat :=
  if k = 1 then (if b.toNat < 128 then b.toNat else 65533) else if k = 3 then b.toNat else if b.toNat < 128 then b.toNat else if b.toNat < 160 then highT.getD (b.toNat - 128) 0 else b.toNat
def decodeS (name l : List UInt8) : List UInt8 := if kind name = 2 then repair l else encs (l.map (sgn (kind name)))
theorem highT_scal : ∀ c ∈ highT, scal c := by decide
theorem highT_get (i : Nat) (h : i < 32) : scal (highT.getD i 0) ∧ highT.getD i 0 ≤ 65535 := by
  have : ∀ i : Fin 32, scal (highT.getD i.val 0) ∧ highT.getD i.val 0 ≤ 65535 := by decide
  exact this ⟨i, h⟩
theorem sgn_scal (k : Nat) (b : UInt8) : scal (sgn k b) := by
  have hb := UInt8.toNat_lt b
  unfold sgn
  split
  · split
    · exact .inl (by omega)
    · exact scal_bad
  · split
    · exact .inl (by omega)
    · split
      · exact .inl (by omega)
      · split
        · exact (highT_get _ (by omega)).1
        · exact .inl (by omega)
theorem sgn_low (k : Nat) (b : UInt8) (h : b.toNat < 128) : sgn k b = b.toNat := by
  unfold sgn
  simp [h]
theorem kind_le (l : List UInt8) : kind l ≤ 4 := by
  unfold kind kindL
  repeat' split
  all_goals omega
theorem decodeS_len (name l : List UInt8) : (decodeS name l).length ≤ 4 * l.length := by
  unfold decodeS
  split
  · have := repair_len l; omega
  · have := (encs_len (l.map (sgn (kind name)))).2
    rw [List.length_map] at this; exact this
theorem decodeS_valid (name l : List UInt8) : validD (decodeS name l) = true := by
  unfold decodeS
  split
  · exact repair_valid l
  · exact valid_encs' _ fun c hc => by
      obtain ⟨b, _, rfl⟩ := List.mem_map.1 hc
      exact sgn_scal _ b
theorem runes_sgn (k : Nat) (l : List UInt8) : runes (encs (l.map (sgn k))) = l.map (sgn k) := runes_encs' _ fun c hc => by
  obtain ⟨b, _, rfl⟩ := List.mem_map.1 hc
  exact sgn_scal _ b
theorem encs_low (l : List UInt8) (h : ∀ b ∈ l, b.toNat < 128) : encs (l.map UInt8.toNat) = l := by
  induction l with
  | nil => rfl
  | cons b t ih =>
    rw [List.map_cons, encs_cons, ih fun x hx => h x (by simp [hx]), enc_of1 (h b (by simp)) rfl]; rfl
theorem runes_low (l : List UInt8) (h : ∀ b ∈ l, b.toNat < 128) : runes l = l.map UInt8.toNat := by
  have e := encs_low l h
  have := runes_encs' (l.map UInt8.toNat) (fun c hc => by
    obtain ⟨b, hb, rfl⟩ := List.mem_map.1 hc
    exact .inl (by have := h b hb; omega))
  rwa [e] at this
theorem decodeS_low (name l : List UInt8) (h : ∀ b ∈ l, b.toNat < 128) : decodeS name l = l := by
  unfold decodeS
  split
  · unfold repair; rw [runes_low l h, encs_low l h]
  · have : l.map (sgn (kind name)) = l.map UInt8.toNat := List.map_congr_left fun b hb => sgn_low _ b (h b hb)
    rw [this, encs_low l h]
end Go.Cs
