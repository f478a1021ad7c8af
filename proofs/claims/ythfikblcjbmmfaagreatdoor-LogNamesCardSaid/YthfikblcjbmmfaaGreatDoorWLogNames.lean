/-
  THE WALK of the closed statement LogNames.
-/
import Derived.Test.YthfikblcjbmmfaaGreatDoorRows
import Derived.Test.YthfikblcjbmmfaaGreatDoorWd
import Derived.Test.YthfikblcjbmmfaaGreatDoorStoreNew
import Derived.Test.YthfikblcjbmmfaaGreatDoorOpenNo
set_option linter.unusedVariables false
namespace Go.Proofs.YthfikblcjbmmfaaGreatDoor
open Go.RowKit
set_option maxHeartbeats 400000 in
theorem logNames_walk {H : Type} {enc : TypeId × Value → H} (W : World) (base : Nat)   (hz : (DataW.weightsEach Tryz.prog [] ([] : List (DataW H))).all (· ≤ reachBytes) = true) (hL : laidMetH Tryz.prog Rows.logNamesRow.laid W) (hsh : W.ShapedOpen Tryz.prog) :
    Calls Tryz.prog 3 #[] W fun e W' => e = .returned (.bool true) ∧ Below W.heap.size W W' := by
  clear hz hL hsh
  go_enter Tryz.func3, Tryz.ntmps3
  go_wp2_with (first | (go_at_call 6; refine (new_1000 _).mono ?_; rintro e w1 ⟨b, rfl, b1⟩) | (go_at_call 5; refine (logdOpen_no _ _ _ _ (by decide) (by decide)).mono ?_; rintro e w2 ⟨rfl, b2⟩) | go_in)
  go_ret
  exact ⟨rfl, b1.trans (b2.mono b1.size)⟩
end Go.Proofs.YthfikblcjbmmfaaGreatDoor
