/-
  An argument of type []api.Step, opened.
-/
import Derived.Test.YtnkioabdpploeaaGreatDoorRows
import Derived.Deep.Strs
import Derived.ChangeSlices
import Derived.Test.YtnkioabdpploeaaGreatDoorGBase
import Derived.Test.YtnkioabdpploeaaGreatDoorSRScript
set_option linter.unusedVariables false
set_option linter.unusedSimpArgs false
namespace Go.Proofs.YtnkioabdpploeaaGreatDoor
open Go.RowKit Go.Lib
theorem in64_wf {n : Int} (h : (Lit.int .i64 n).wf = true) : In64 n := by
  simp only [Lit.wf, Bool.and_eq_true, decide_eq_true_eq] at h
  exact ⟨h.1, h.2⟩
theorem bulk_lits {H : Type} (l : List Int) : l.length ≤ Rows.uptoBulkAll (Go.ChangeShapes.lits (H := H) .i64 l) := by
  induction l with
  | nil => simp
  | cons x r ih =>
    unfold Go.ChangeShapes.lits at ih ⊢
    rw [List.map_cons, Rows.uptoBulkAll, List.length_cons]
    simp only [Rows.uptoBulk]
    omega
theorem bulk_strs {H : Type} (S : Nat → ByteArray) (l : List Nat) : sizeS (l.map S) ≤ Rows.uptoBulkAll (l.map fun i => (DataW.lit (.string (S i).data.toList) : DataW H)) := by
  induction l with
  | nil => simp [sizeS, Rows.uptoBulkAll]
  | cons i r ih =>
    have h0 : (S i).data.size = (S i).size := rfl
    unfold sizeS at ih ⊢
    simp only [List.map_cons, List.foldr_cons, Rows.uptoBulkAll, Rows.uptoBulk, Array.length_toList] at ih ⊢
    omega
theorem open_ns {H : Type} {enc : TypeId × Value → H} {w : World} {base : Nat} {sp : Nat → Bool} {held : Bool} {n : Nat} {x : Value} {y : DataW H × List MemPlace}
    (h : DataW.trod enc Tryz.prog w base sp held n 22 [x] = some y) : ∃ l : List Int, IntsAt w x l ∧ l.length ≤ Rows.uptoBulk y.1 ∧ ∀ z ∈ l, In64 z := by
  rcases Go.ChangeShapes.open_ints Tryz.underlying22 Tryz.underlying3 (by kernel_rfl) h with ⟨e3, rfl⟩ | ⟨a, len, cap, zs, e3, _, hlc, _, hm, rfl, hc, hw⟩
  · simp at e3
    subst e3
    exact ⟨[], ⟨none, 0, rfl, fun j hj => absurd hj (by simp)⟩, by simp, by simp⟩
  · simp at e3
    subst e3
    have hlm : len ≤ zs.length := by rw [hm]; split <;> omega
    have hl : (zs.take len).length = len := by rw [List.length_take]; omega
    refine ⟨zs.take len, ⟨some a, cap, by rw [hl], fun j hj => ⟨a, rfl, ?_⟩⟩, ?_, fun z hz => in64_wf (hw z (List.mem_of_mem_take hz))⟩
    · rw [hl] at hj
      rw [hc j (by omega), List.getElem_take, List.getD_eq_getElem?_getD, List.getElem?_eq_getElem (by omega)]
      rfl
    · have := bulk_lits (H := H) (zs.take len)
      simp only [Rows.uptoBulk]
      omega
theorem open_ss {H : Type} {enc : TypeId × Value → H} {w : World} {base : Nat} {sp : Nat → Bool} {held : Bool} {n : Nat} {x : Value} {y : DataW H × List MemPlace}
    (h : DataW.trod enc Tryz.prog w base sp held n 23 [x] = some y) : ∃ l : List ByteArray, StrsAt w x l ∧ sizeS l ≤ Rows.uptoBulk y.1 := by
  rcases Go.Deep.open_strs Tryz.underlying23 Tryz.underlying9 (by kernel_rfl) h with ⟨e3, rfl⟩ | ⟨a, len, cap, m, S, e3, _, hlc, _, hm, rfl, hc⟩
  · simp at e3
    subst e3
    exact ⟨[], ⟨none, 0, rfl, fun j hj => absurd hj (by simp)⟩, by simp [sizeS]⟩
  · simp at e3
    subst e3
    have hlm : len ≤ m := by rw [hm]; split <;> omega
    refine ⟨(List.range len).map S, ⟨some a, cap, by simp, fun j hj => ⟨a, rfl, ?_⟩⟩, ?_⟩
    · simp at hj
      rw [(hc j (by omega)).1]
      simp
    · have hb := bulk_strs (H := H) S (List.range len)
      simp only [Rows.uptoBulk]
      omega
end Go.Proofs.YtnkioabdpploeaaGreatDoor
