/-
  PLAIN LAWS: a word read back (Unescape), the program's way and the document's way.
-/
import Derived.Test.YtnkioabdpploeaaGreatDoorRows
import Derived.Test.YtnkioabdpploeaaGreatDoorSPlayP
set_option linter.unusedVariables false
namespace Go.Proofs.YtnkioabdpploeaaGreatDoor
open Go.RowKit Go.Lib
/-- A sign's place among the sixteen, from 1 on; 0: none. -/
def bv (c : UInt8) : Nat := if 48 ≤ c.toNat ∧ c.toNat ≤ 57 then c.toNat - 47 else if 65 ≤ c.toNat ∧ c.toNat ≤ 70 then c.toNat - 54 else 0
theorem bv_hex : ∀ v : Fin 16, bv (hexB v.val) = v.val + 1 := by decide
theorem bv_le (c : UInt8) : bv c ≤ 16 := by unfold bv; split <;> (try split) <;> omega
def hx (a b : UInt8) : UInt8 := (16 * (bv a - 1) + (bv b - 1)).toUInt8
def unP : List UInt8 → Option (List UInt8)
  | c :: a :: b :: r => if c ≠ 37 then (unP (a :: b :: r)).map (c :: ·) else if bv a = 0 ∨ bv b = 0 then none else (unP r).map (hx a b :: ·)
  | l => if 37 ∈ l then none else some l
def unD : List UInt8 → List UInt8
  | c :: a :: b :: r => if c = 37 then hx a b :: unD r else c :: unD (a :: b :: r)
  | l => l
theorem unP_c (c : UInt8) (r : List UInt8) (h : c ≠ 37) : unP (c :: r) = (unP r).map (c :: ·) := by
  match r with
  | [] => simp [unP, Ne.symm h]
  | [a] => simp [unP, Ne.symm h]; split <;> simp
  | a :: b :: r => rw [unP, if_pos h]
theorem unP_x (a b : UInt8) (r : List UInt8) : unP (37 :: a :: b :: r) = if bv a = 0 ∨ bv b = 0 then none else (unP r).map (hx a b :: ·) := by
  rw [unP, if_neg (by simp)]
theorem unP_end (r : List UInt8) (h : r.length < 2) : unP (37 :: r) = none := by
  match r, h with
  | [], _ => simp [unP]
  | [a], _ => simp [unP]
theorem unD_c (c : UInt8) (r : List UInt8) (h : c ≠ 37 ∨ r.length < 2) : unD (c :: r) = c :: unD r := by
  match r, h with
  | [], _ => simp [unD]
  | [a], _ => simp [unD]
  | a :: b :: r, .inl h => rw [unD, if_neg h]
  | a :: b :: r, .inr h => simp at h; omega
theorem unD_x (a b : UInt8) (r : List UInt8) : unD (37 :: a :: b :: r) = hx a b :: unD r := by rw [unD, if_pos rfl]
theorem unD_nil : unD [] = [] := by simp [unD]
theorem unP_nil : unP [] = some [] := by simp [unP]
theorem hx_hex (c : UInt8) : hx (hexB (c.toNat / 16)) (hexB (c.toNat % 16)) = c := by
  have h := c.toNat_lt
  have h1 := bv_hex ⟨c.toNat / 16, by omega⟩
  have h2 := bv_hex ⟨c.toNat % 16, by omega⟩
  simp only at h1 h2
  unfold hx
  rw [h1, h2]
  apply UInt8.toNat_inj.1
  show (16 * (c.toNat / 16 + 1 - 1) + (c.toNat % 16 + 1 - 1)) % 256 = c.toNat
  omega
theorem bv_hex1 (c : UInt8) : ¬ (bv (hexB (c.toNat / 16)) = 0 ∨ bv (hexB (c.toNat % 16)) = 0) := by
  have h := c.toNat_lt
  have h1 := bv_hex ⟨c.toNat / 16, by omega⟩
  have h2 := bv_hex ⟨c.toNat % 16, by omega⟩
  simp only at h1 h2
  omega
theorem escB_cases (c : UInt8) : (c ≠ 37 ∧ escB c = [c]) ∨ escB c = [37, hexB (c.toNat / 16), hexB (c.toNat % 16)] := by
  unfold escB
  split
  · rename_i h; exact .inl ⟨h.2.2, rfl⟩
  · exact .inr rfl
theorem unP_esc : ∀ l : List UInt8, unP (l.flatMap escB) = some l
  | [] => unP_nil
  | c :: r => by
    have ih := unP_esc r
    rw [List.flatMap_cons]
    rcases escB_cases c with ⟨h, e⟩ | e
    · rw [e, List.singleton_append, unP_c c _ h, ih]; rfl
    · rw [e]
      show unP (37 :: hexB (c.toNat / 16) :: hexB (c.toNat % 16) :: r.flatMap escB) = _
      rw [unP_x, if_neg (bv_hex1 c), ih, hx_hex]; rfl
theorem unD_esc : ∀ l : List UInt8, unD (l.flatMap escB) = l
  | [] => unD_nil
  | c :: r => by
    have ih := unD_esc r
    rw [List.flatMap_cons]
    rcases escB_cases c with ⟨h, e⟩ | e
    · rw [e, List.singleton_append, unD_c c _ (.inl h), ih]
    · rw [e]
      show unD (37 :: hexB (c.toNat / 16) :: hexB (c.toNat % 16) :: r.flatMap escB) = _
      rw [unD_x, ih, hx_hex]
def pctS : ByteArray := ⟨#[37]⟩
def unDS (w : ByteArray) : ByteArray := ⟨(unD w.data.toList).toArray⟩
/-- A word read back. -/
def unE (w : ByteArray) : Option ByteArray := if w = pctS then some ⟨#[]⟩ else if escS (unDS w) = w then some (unDS w) else none
theorem escS_nil : escS ⟨#[]⟩ = pctS := rfl
theorem escS_cons {s : ByteArray} (h : s ≠ ⟨#[]⟩) : (escS s).data.toList = s.data.toList.flatMap escB := by
  have h1 : ¬ s.data.toList = [] := fun e => h (by apply ByteArray.ext; apply Array.ext'; exact e)
  unfold escS escL
  rw [if_neg h1]
theorem escB_pct (c : UInt8) : escB c ≠ [37] := by
  unfold escB
  split
  · rename_i h
    exact fun e => h.2.2 (by injection e)
  · intro e; simp at e
theorem escS_ne {s : ByteArray} (h : s ≠ ⟨#[]⟩) : escS s ≠ pctS := by
  intro e
  have h1 := escS_cons h
  rw [e] at h1
  have h2 : ([37] : List UInt8) = s.data.toList.flatMap escB := h1
  have h3 : s.data.toList ≠ [] := fun e => h (by apply ByteArray.ext; apply Array.ext'; exact e)
  cases hs : s.data.toList with
  | nil => exact h3 hs
  | cons c r =>
    rw [hs, List.flatMap_cons] at h2
    have hc := escB_len c
    have hl := congrArg List.length h2
    rw [List.length_append] at hl
    have hz : (r.flatMap escB).length = 0 := by simp only [List.length_singleton] at hl; omega
    rw [List.length_eq_zero_iff.1 hz, List.append_nil] at h2
    exact escB_pct c h2.symm
theorem unE_esc (s : ByteArray) : unE (escS s) = some s := by
  by_cases h : s = ⟨#[]⟩
  · rw [h]; rfl
  · have e : unDS (escS s) = s := by
      unfold unDS
      rw [escS_cons h, unD_esc]
    unfold unE
    rw [if_neg (escS_ne h), e, if_pos rfl]
theorem unE_some {w s : ByteArray} (h : unE w = some s) : escS s = w := by
  unfold unE at h
  split at h
  · rename_i e; injection h with h; rw [e, ← h]; rfl
  · split at h
    · rename_i e; injection h with h; rw [← h]; exact e
    · cases h
/-- The program's way answers the same. -/
theorem unE_P {w : ByteArray} (h : w ≠ pctS) : unE w = (match unP w.data.toList with | none => none | some t => if escS ⟨t.toArray⟩ = w then some ⟨t.toArray⟩ else none) := by
  have key : ∀ s, escS s = w → unP w.data.toList = some s.data.toList := fun s hs => by
    have hne : s ≠ ⟨#[]⟩ := fun e => h (by rw [← hs, e]; rfl)
    rw [← hs, escS_cons hne, unP_esc]
  cases hE : unE w with
  | some s =>
    have hs := unE_some hE
    rw [key s hs]
    simp only
    rw [show (⟨s.data.toList.toArray⟩ : ByteArray) = s from by simp, if_pos hs]
  | none =>
    cases hP : unP w.data.toList with
    | none => rfl
    | some t =>
      simp only
      rw [if_neg]
      intro e
      have := unE_esc ⟨t.toArray⟩
      rw [e, hE] at this
      cases this
end Go.Proofs.YtnkioabdpploeaaGreatDoor
