/-
  THE WALK of the closed statement MirrorNames.
-/
import Derived.Test.YthfikblcjbmmfaaGreatDoorRows
import Derived.Test.YthfikblcjbmmfaaGreatDoorWd
import Derived.Test.YthfikblcjbmmfaaGreatDoorStoreNew
import Derived.Test.YthfikblcjbmmfaaGreatDoorOpenNo
set_option linter.unusedVariables false
namespace Go.Proofs.YthfikblcjbmmfaaGreatDoor
open Go.RowKit
set_option maxHeartbeats 400000 in
theorem mirrorNames_walk {H : Type} {enc : TypeId × Value → H} (W : World) (base : Nat)   (hz : (DataW.weightsEach Tryz.prog [] ([] : List (DataW H))).all (· ≤ reachBytes) = true) (hL : laidMetH Tryz.prog Rows.mirrorNamesRow.laid W) (hsh : W.ShapedOpen Tryz.prog) :
    Calls Tryz.prog 4 #[] W fun e W' => e = .returned (.bool true) ∧ Below W.heap.size W W' := by
  clear hz hL hsh
  go_enter Tryz.func4, Tryz.ntmps4
  go_wp2_with (first | (go_at_call 6; refine (new_1000 _).mono ?_; rintro e w1 ⟨b, rfl, b1⟩) | (go_at_call 9; refine (mirrorOpen_no _ _ _ _ _ _ _ _ rfl _ _ _ (by decide) (by decide)).mono ?_; rintro e w2 ⟨rfl, b2⟩) | go_in)
  go_ret
  exact ⟨rfl, b1.trans (b2.mono b1.size)⟩
end Go.Proofs.YthfikblcjbmmfaaGreatDoor
