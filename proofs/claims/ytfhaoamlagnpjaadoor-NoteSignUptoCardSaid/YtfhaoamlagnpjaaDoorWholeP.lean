/-
  PLAIN LAW: a text that is gone through rune by rune, and one that is gone through byte by byte: the same texts are whole.
-/
import Derived.Test.YtfhaoamlagnpjaaDoorRows
import Derived.Lib.DecodeN
import Derived.Lib.RuneCount
import Derived.Lib.MapLaws
set_option linter.unusedVariables false
set_option linter.unusedSimpArgs false
namespace Go.Proofs.YtfhaoamlagnpjaaDoor
open Go.Lib
def okB (nl : Bool) (b : Nat) : Bool := decide (32 ≤ b) || (nl && b == 10)
/-- Rune by rune, as the program goes. -/
def wholeP (nl : Bool) (s : ByteArray) (pos : Nat) : Bool :=
  if h : pos < s.size then
    if (Utf8.decode s pos).1 = 65533 ∧ (Utf8.decode s pos).2 = 1 then false
    else if okB nl (Utf8.decode s pos).1 = false then false
    else wholeP nl s (pos + (Utf8.decode s pos).2)
  else true
termination_by s.size - pos
decreasing_by have := decode_width_pos s pos h; omega
def validP (s : ByteArray) (pos : Nat) : Bool :=
  if h : pos < s.size then
    if (Utf8.decode s pos).1 = 65533 ∧ (Utf8.decode s pos).2 = 1 then false
    else validP s (pos + (Utf8.decode s pos).2)
  else true
termination_by s.size - pos
decreasing_by have := decode_width_pos s pos h; omega
def plainB (nl : Bool) (s : ByteArray) (pos : Nat) : Bool := (s.data.toList.drop pos).all fun b => okB nl b.toNat
theorem get_at (s : ByteArray) (i : Nat) (h : i < s.size) : s.get! i = s[i] := by
  simp only [ByteArray.get!, ByteArray.getElem_eq_getElem_data]
  exact getElem!_pos s.data i h
theorem plainB_step (nl : Bool) (s : ByteArray) (pos : Nat) (h : pos < s.size) : plainB nl s pos = (okB nl (s.get! pos).toNat && plainB nl s (pos + 1)) := by
  unfold plainB
  rw [List.drop_eq_getElem_cons (by rw [Array.length_toList]; exact h), List.all_cons, get_at s pos h]
  rfl
theorem okB_high (nl : Bool) {b : Nat} (h : 32 ≤ b) : okB nl b = true := by simp [okB, h]
theorem wholeP_eq (nl : Bool) (s : ByteArray) (pos : Nat) : wholeP nl s pos = (plainB nl s pos && validP s pos) := by
  induction hn : s.size - pos using Nat.strongRecOn generalizing pos with
  | _ n ih =>
    rw [wholeP, validP]
    by_cases h : pos < s.size
    · rw [dif_pos h, dif_pos h]
      by_cases hb : (Utf8.decode s pos).1 = 65533 ∧ (Utf8.decode s pos).2 = 1
      · rw [if_pos hb, if_pos hb, Bool.and_false]
      · rw [if_neg hb, if_neg hb]
        have hw := decode_width_pos s pos h
        have ih' := ih _ (by omega) (pos + (Utf8.decode s pos).2) rfl
        rw [ih']
        have hd := decode_at s pos
        have hs := decodeN_shape (s.size - pos) (s.get! pos).toNat (s.get! (pos + 1)).toNat (s.get! (pos + 2)).toNat (s.get! (pos + 3)).toNat
        rw [← hd] at hs
        rcases hs with ⟨h0, e⟩ | ⟨h0, h1, h2, h3, e⟩ | ⟨h0, h1, h2, h3, h4, h5, e⟩ | ⟨h0, h1, h2, h3, h4, h5, h6, e⟩ | e
        · rw [e]
          simp only
          rw [plainB_step nl s pos h]
          cases okB nl (s.get! pos).toNat <;> simp
        · rw [e]
          simp only
          rw [okB_high nl (b := (s.get! pos).toNat % 32 * 64 + (s.get! (pos + 1)).toNat % 64) (by omega), plainB_step nl s pos h, plainB_step nl s (pos + 1) (by omega), okB_high nl (b := (s.get! pos).toNat) (by omega), okB_high nl (b := (s.get! (pos + 1)).toNat) (by omega)]
          simp
        · rw [e]
          simp only
          rw [okB_high nl (b := (s.get! pos).toNat % 16 * 4096 + (s.get! (pos + 1)).toNat % 64 * 64 + (s.get! (pos + 2)).toNat % 64) (by omega), plainB_step nl s pos h, plainB_step nl s (pos + 1) (by omega), plainB_step nl s (pos + 1 + 1) (by omega), okB_high nl (b := (s.get! pos).toNat) (by omega), okB_high nl (b := (s.get! (pos + 1)).toNat) (by omega), okB_high nl (b := (s.get! (pos + 1 + 1)).toNat) (by show 32 ≤ (s.get! (pos + 2)).toNat; omega)]
          simp
        · rw [e]
          simp only
          rw [okB_high nl (b := (s.get! pos).toNat % 8 * 262144 + (s.get! (pos + 1)).toNat % 64 * 4096 + (s.get! (pos + 2)).toNat % 64 * 64 + (s.get! (pos + 3)).toNat % 64) (by omega), plainB_step nl s pos h, plainB_step nl s (pos + 1) (by omega), plainB_step nl s (pos + 1 + 1) (by omega), plainB_step nl s (pos + 1 + 1 + 1) (by omega), okB_high nl (b := (s.get! pos).toNat) (by omega), okB_high nl (b := (s.get! (pos + 1)).toNat) (by omega), okB_high nl (b := (s.get! (pos + 1 + 1)).toNat) (by show 32 ≤ (s.get! (pos + 2)).toNat; omega), okB_high nl (b := (s.get! (pos + 1 + 1 + 1)).toNat) (by show 32 ≤ (s.get! (pos + 3)).toNat; omega)]
          simp
        · exact absurd (by rw [e]; exact ⟨rfl, rfl⟩) hb
    · rw [dif_neg h, dif_neg h]
      unfold plainB
      have hz : s.data.size = s.size := rfl
      rw [List.drop_eq_nil_of_le (by rw [Array.length_toList]; omega)]
      rfl
/-- Where U+FFFD is read: either its three bytes stand there, or one bad byte. -/
theorem fffd_at (s : ByteArray) (pos : Nat) (h : pos < s.size) (hr : (Utf8.decode s pos).1 = 65533) :
    ((Utf8.decode s pos).2 = 1) ↔ ¬ (pos + 3 ≤ s.size ∧ (s.get! pos).toNat = 239 ∧ (s.get! (pos + 1)).toNat = 191 ∧ (s.get! (pos + 2)).toNat = 189) := by
  have hd := decode_at s pos
  have hs := decodeN_shape (s.size - pos) (s.get! pos).toNat (s.get! (pos + 1)).toNat (s.get! (pos + 2)).toNat (s.get! (pos + 3)).toNat
  have u0 := (s.get! pos).toNat_lt
  have u1 := (s.get! (pos + 1)).toNat_lt
  have u2 := (s.get! (pos + 2)).toNat_lt
  have u3 := (s.get! (pos + 3)).toNat_lt
  constructor
  · intro h1 ⟨g0, g1, g2, g3⟩
    have : Utf8.decode s pos = (65533, 3) := by
      rw [hd, g1, g2, g3]
      unfold decodeN
      simp
      omega
    rw [this] at h1
    simp at h1
  · intro hn
    rw [← hd] at hs
    rcases hs with ⟨h0, e⟩ | ⟨h0, h1, h2, h3, e⟩ | ⟨h0, h1, h2, h3, h4, h5, e⟩ | ⟨h0, h1, h2, h3, h4, h5, h6, e⟩ | e
    · rw [e]
    · rw [e] at hr; simp only at hr; omega
    · rw [e] at hr; simp only at hr
      exact absurd ⟨by omega, by omega, by omega, by omega⟩ hn
    · rw [e] at hr; simp only at hr; omega
    · rw [e]
end Go.Proofs.YtfhaoamlagnpjaaDoor
