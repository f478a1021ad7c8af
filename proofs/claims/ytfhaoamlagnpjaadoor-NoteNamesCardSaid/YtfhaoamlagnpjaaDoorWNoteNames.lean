/-
  THE WALK of the closed statement NoteNames.
-/
import Derived.Test.YtfhaoamlagnpjaaDoorRows
import Derived.Test.YtfhaoamlagnpjaaDoorWd
import Derived.Test.YtfhaoamlagnpjaaDoorNoteIDno
set_option linter.unusedVariables false
namespace Go.Proofs.YtfhaoamlagnpjaaDoor
open Go.RowKit
set_option maxHeartbeats 400000 in
theorem noteNames_walk {H : Type} {enc : TypeId × Value → H} (W : World) (base : Nat)   (hz : (DataW.weightsEach Tryd.prog [] ([] : List (DataW H))).all (· ≤ reachBytes) = true) (hL : laidMetH Tryd.prog Rows.noteNamesRow.laid W) (hsh : W.ShapedOpen Tryd.prog) :
    Calls Tryd.prog 3 #[] W fun e W' => e = .returned (.bool true) ∧ Below W.heap.size W W' := by
  clear hz hL hsh
  go_enter Tryd.func3, Tryd.ntmps3
  go_wp2_with (first | (go_at_call 14; refine (noteID_no _ _ _ (by decide) (by decide)).mono ?_; rintro e w1 ⟨rfl, b1⟩) | go_in)
  go_ret
  exact ⟨rfl, b1⟩
end Go.Proofs.YtfhaoamlagnpjaaDoor
