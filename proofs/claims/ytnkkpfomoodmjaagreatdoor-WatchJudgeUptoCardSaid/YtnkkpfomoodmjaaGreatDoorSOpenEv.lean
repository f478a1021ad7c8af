/-
  AN ARGUMENT of type api.Evidence, opened.
-/
import Derived.Test.YtnkkpfomoodmjaaGreatDoorRows
import Derived.Lib.SmallJoins
import Derived.ChangeMaps5
import Derived.Test.YtnkkpfomoodmjaaGreatDoorGBase
set_option linter.unusedVariables false
namespace Go.Proofs.YtnkkpfomoodmjaaGreatDoor
open Go.RowKit Go.Lib Go.ChangeMaps Go.Joins
set_option maxRecDepth 100000 in
theorem open_ev {H : Type} {enc : TypeId × Value → H} {w : World} {base : Nat} {sp : Nat → Bool} {held : Bool} {r : Reach} {b0 : Nat} {v : Value} {d : DataW H} {p : List MemPlace}
    (hv : Value.okWide Tryz.prog w r b0 25 v) (h : DataW.Trod enc Tryz.prog w base sp held 25 v d p) :
    ∃ n s : ByteArray, v = .agg #[.string n, .string s] ∧ Rows.uptoBulk d = n.size + 1 + (s.size + 1) + 1 ∧ p = [] := by
  obtain ⟨v0, v1, y0, y1, k, rfl, rfl, rfl, h0, h1⟩ := open_agg2 Tryz.underlying25 (by kernel_rfl) (by kernel_rfl) hv h
  obtain ⟨s0, e0, rfl, -⟩ := DataW.trod_string (ht := Tryz.underlying9) h0
  obtain ⟨s1, e1, rfl, -⟩ := DataW.trod_string (ht := Tryz.underlying9) h1
  simp at e0 e1
  subst e0 e1
  refine ⟨s0, s1, rfl, ?_, rfl⟩
  simp [Rows.uptoBulk, Rows.uptoBulkAll]
end Go.Proofs.YtnkkpfomoodmjaaGreatDoor
