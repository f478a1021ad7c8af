/-
  PLAIN LAWS for PlayByLines: two scripts one behind the other.
-/
import Derived.Test.YtaomecinemmdgaaRows
import Derived.Test.YtaomecinemmdgaaGBase
import Derived.Test.YtaomecinemmdgaaSStepP
import Derived.Test.YtaomecinemmdgaaSDecP
set_option linter.unusedVariables false
namespace Go.Proofs.Ytaomecinemmdgaa
open Go.RowKit Go.Lib
theorem splL_app2 (c : UInt8) (b : List UInt8) : ∀ a : List UInt8, splL c (a ++ c :: b) = splL c a ++ splL c b
  | [] => by simp [splL]
  | x :: r => by
    have ih := splL_app2 c b r
    rw [List.cons_append]
    simp only [splL]
    split
    · rw [ih]; rfl
    · rw [ih]
      cases h : splL c r with
      | nil => exact absurd h (splL_ne c r)
      | cons y t => rfl
theorem linL_first (a : List UInt8) : linL (a ++ [10]) = splL 10 a := by
  unfold linL
  have h := splL_app2 10 [] a
  have h1 : splL 10 ([] : List UInt8) = [[]] := rfl
  rw [h1] at h
  simp only [h]
  rw [List.getLast_append_of_ne_nil _ (by simp)]
  simp
theorem linL_both (a b : List UInt8) : linL (a ++ 10 :: b) = linL (a ++ [10]) ++ linL b := by
  rw [linL_first]
  have h := splL_app2 10 b a
  have hne := splL_ne 10 b
  have hg : (splL 10 (a ++ 10 :: b)).getLast (splL_ne 10 _) = (splL 10 b).getLast hne := by
    simp only [h]
    rw [List.getLast_append_of_ne_nil _ hne]
  unfold linL
  rw [hg]
  split
  · rw [h, List.dropLast_append_of_ne_nil hne]
  · exact h
theorem splL_count (c : UInt8) : ∀ l : List UInt8, (splL c l).length = l.count c + 1
  | [] => rfl
  | x :: r => by
    have ih := splL_count c r
    simp only [splL]
    split
    · rename_i h
      rw [List.length_cons, ih, List.count_cons]
      simp_all
    · rename_i h
      rw [List.count_cons]
      cases hs : splL c r with
      | nil => exact absurd hs (splL_ne c r)
      | cons y t =>
        rw [hs] at ih
        simp_all
theorem decF_err : ∀ (L : List (List UInt8)) (n : Nat) (acc : List StepR), ((decF L n acc).2.2 = 0 → (decF L n acc).2.1 = 0) ∧ ((decF L n acc).2.2 ≠ 0 → (decF L n acc).1 = [])
  | [], n, acc => by simp [decF]
  | l :: r, n, acc => by
    rw [decF]
    split
    · exact decF_err r (n + 1) acc
    · split
      · simp
      · split
        · rename_i c hc
          rcases stepO_ne hc with rfl | rfl <;> simp
        · exact decF_err r (n + 1) _
theorem decF_append (L2 : List (List UInt8)) : ∀ (L : List (List UInt8)) (n : Nat) (acc : List StepR), decF (L ++ L2) n acc = if (decF L n acc).2.2 = 0 then decF L2 (n + L.length) (decF L n acc).1 else decF L n acc
  | [], n, acc => by simp [decF]
  | l :: r, n, acc => by
    rw [List.cons_append, decF, decF]
    split
    · rw [decF_append L2 r (n + 1) acc, List.length_cons, show n + 1 + r.length = n + (r.length + 1) by omega]
    · split
      · simp
      · split
        · rename_i c hc
          rw [if_neg]
          rcases stepO_ne hc with rfl | rfl <;> simp
        · rw [decF_append L2 r (n + 1) _, List.length_cons, show n + 1 + r.length = n + (r.length + 1) by omega]
theorem decF_shift (m : Nat) (p : List StepR) : ∀ (L : List (List UInt8)) (n : Nat) (acc : List StepR), decF L (n + m) (p ++ acc) = if (decF L n acc).2.2 = 0 then (p ++ (decF L n acc).1, 0, 0) else ([], (decF L n acc).2.1 + m, (decF L n acc).2.2)
  | [], n, acc => by simp [decF]
  | l :: r, n, acc => by
    rw [decF, decF]
    split
    · rw [show n + m + 1 = (n + 1) + m by omega]; exact decF_shift m p r (n + 1) acc
    · split
      · simp
      · split
        · rename_i c hc
          rw [if_neg]
          rcases stepO_ne hc with rfl | rfl <;> simp
        · rename_i s hs
          rw [show n + m + 1 = (n + 1) + m by omega, List.append_assoc]
          exact decF_shift m p r (n + 1) _
/-- Two scripts one behind the other. -/
theorem decO_both (a b : ByteArray) : decO (a ++ ⟨#[10]⟩ ++ b) = if (decO (a ++ ⟨#[10]⟩)).2.2 = 0 then (if (decO b).2.2 = 0 then ((decO (a ++ ⟨#[10]⟩)).1 ++ (decO b).1, 0, 0) else ([], (decO b).2.1 + (linL (a ++ ⟨#[10]⟩ : ByteArray).data.toList).length, (decO b).2.2)) else decO (a ++ ⟨#[10]⟩) := by
  have e1 : (a ++ ⟨#[10]⟩ : ByteArray).data.toList = a.data.toList ++ [10] := by rw [ByteArray.data_append, Array.toList_append]
  have e2 : (a ++ ⟨#[10]⟩ ++ b : ByteArray).data.toList = a.data.toList ++ 10 :: b.data.toList := by
    rw [ByteArray.data_append, Array.toList_append, e1, List.append_assoc]; rfl
  unfold decO
  rw [e2, linL_both, decF_append, e1]
  split
  · have h := decF_shift (linL (a.data.toList ++ [10])).length (decF (linL (a.data.toList ++ [10])) 1 []).1 (linL b.data.toList) 1 []
    rw [List.append_nil] at h
    rw [h]
  · rfl
theorem known_dec : decO ⟨#[114, 111, 111, 116, 32, 55, 10]⟩ = ([⟨7, zero6, [7], []⟩], 0, 0) := by
  have hd : decS 7 = ⟨#[55]⟩ := by unfold decS decL; rw [if_pos (by decide), digL_lt (by decide)]; rfl
  have hu : undV ⟨#[55]⟩ = some 7 := undV_of (by decide) (by decide) hd
  have hw : wdsL (bsL [114, 111, 111, 116, 32, 55]) = some [⟨#[114, 111, 111, 116]⟩, ⟨#[55]⟩] := by
    unfold wdsL
    rw [if_neg (by decide)]
    decide
  have hs : stepO [⟨#[114, 111, 111, 116]⟩, ⟨#[55]⟩] = .inr ⟨7, zero6, [7], []⟩ := by
    have hk : kindP ⟨#[114, 111, 111, 116]⟩ = 7 := by decide
    rw [stepO_3 (ws := [⟨#[114, 111, 111, 116]⟩, ⟨#[55]⟩]) (k := 7) (ns := [7]) hk (by decide) (by decide) (by
      show numsO [⟨#[55]⟩] = _
      rw [numsO, hu]; rfl)]
    rfl
  show decF [[114, 111, 111, 116, 32, 55]] 1 [] = _
  rw [decF_yes (by decide) hw hs, decF]
  rfl
end Go.Proofs.Ytaomecinemmdgaa
