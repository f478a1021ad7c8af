/-
  WORDS for reading a script: the lines one by one; what stands while steps are gathered.
-/
import Derived.Test.YtnkioabdpploeaaGreatDoorRows
import Derived.Test.YtnkioabdpploeaaGreatDoorGBase
import Derived.Test.YtnkioabdpploeaaGreatDoorSStepP
import Derived.Test.YtnkioabdpploeaaGreatDoorSRStep
import Derived.Test.YtnkioabdpploeaaGreatDoorSShelf
set_option linter.unusedVariables false
set_option linter.unusedSimpArgs false
namespace Go.Proofs.YtnkioabdpploeaaGreatDoor
open Go.RowKit Go.Lib
theorem unD_len : ∀ (n : Nat) (l : List UInt8), l.length ≤ n → (unD l).length ≤ l.length
  | _, [], _ => by simp [unD]
  | _, [c], _ => by simp [unD]
  | _, [c, a], _ => by simp [unD]
  | 0, c :: a :: b :: r, hn => by simp at hn
  | n + 1, c :: a :: b :: r, hn => by
    simp only [List.length_cons] at hn
    rw [unD]
    split
    · have := unD_len n r (by omega)
      simp only [List.length_cons]; omega
    · have := unD_len n (a :: b :: r) (by simp only [List.length_cons]; omega)
      simp only [List.length_cons] at this ⊢; omega
theorem unE_size {x t : ByteArray} (h : unE x = some t) : t.size ≤ x.size := by
  unfold unE at h
  split at h
  · injection h with h; subst h; exact Nat.zero_le _
  · split at h
    · injection h with h
      subst h
      unfold unDS
      show (unD x.data.toList).toArray.size ≤ _
      rw [List.size_toArray]
      have h1 := unD_len _ x.data.toList (Nat.le_refl _)
      have h2 : x.data.toList.length = x.size := Array.length_toList
      omega
    · cases h
theorem wlO_size : ∀ {l ts : List ByteArray} {B : Nat}, wlO l = some ts → (∀ x ∈ l, x.size ≤ B) → ∀ t ∈ ts, t.size ≤ B
  | [], ts, B, h, _, t, ht => by simp [wlO] at h; subst h; simp at ht
  | x :: r, ts, B, h, hB, t, ht => by
    unfold wlO at h
    split at h
    · cases h
    · rename_i u hu
      obtain ⟨q, hq, rfl⟩ := Option.map_eq_some_iff.1 h
      rcases List.mem_cons.1 ht with rfl | ht
      · exact Nat.le_trans (unE_size hu) (hB x (List.mem_cons_self ..))
      · exact wlO_size hq (fun y hy => hB y (List.mem_cons_of_mem _ hy)) t ht
theorem wdsL_size {s : ByteArray} {ts : List ByteArray} (h : wdsL s = some ts) : (∀ t ∈ ts, t.size ≤ s.size) ∧ ts.length ≤ s.size + 1 := by
  have hll : s.data.toList.length = s.size := Array.length_toList
  unfold wdsL at h
  split at h
  · injection h with h; subst h; exact ⟨fun t ht => absurd ht (by simp), by simp⟩
  · refine ⟨wlO_size h (fun x hx => ?_), ?_⟩
    · obtain ⟨y, hy, rfl⟩ := List.mem_map.1 hx
      have := splL_mem 32 _ y hy
      show y.toArray.size ≤ _
      rw [List.size_toArray]; omega
    · rw [wlO_len h, List.length_map]
      have := splL_length 32 s.data.toList
      omega
end Go.Proofs.YtnkioabdpploeaaGreatDoor
