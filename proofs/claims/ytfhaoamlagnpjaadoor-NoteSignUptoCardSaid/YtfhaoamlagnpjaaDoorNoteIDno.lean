/-
  CONTRACT of note.ID at a key whose name does not go.
-/
import Derived.Test.YtfhaoamlagnpjaaDoorRows
import Derived.Test.YtfhaoamlagnpjaaDoorWd
import Derived.Test.YtfhaoamlagnpjaaDoorName
set_option linter.unusedVariables false
set_option linter.unusedSimpArgs false
namespace Go.Proofs.YtfhaoamlagnpjaaDoor
open Go.RowKit
set_option maxHeartbeats 400000 in
theorem noteID_no (n s : ByteArray) (w : World) (hn : n.size ≤ maxLen) (hno : nameOk n = false) :
    Calls Tryd.prog 14 #[.agg #[.string n, .string s]] w fun e w' => e = .returned (.tuple #[.string ⟨#[]⟩, .int .i64 203]) ∧ Below w.heap.size w w' := by
  have Hno := hide hno; clear hno
  go_enter Tryd.func14, Tryd.ntmps14
  go_wp2_with fail
  refine (name_any _ _ hn).mono ?_
  rintro e w1 ⟨rfl, rfl⟩
  rw [unhide Hno]
  go_wp2
  go_ret2
  exact ⟨rfl, (Below.refl _ _).alloc (Nat.le_refl _) _⟩
end Go.Proofs.YtfhaoamlagnpjaaDoor
