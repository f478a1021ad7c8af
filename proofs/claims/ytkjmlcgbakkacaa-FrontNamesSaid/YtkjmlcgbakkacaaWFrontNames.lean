/-
  THE WALK of the closed statement FrontNames.
-/
import Derived.Test.YtkjmlcgbakkacaaRows
import Derived.Test.YtkjmlcgbakkacaaWd
set_option linter.unusedVariables false
namespace Go.Proofs.Ytkjmlcgbakkacaa
open Go.RowKit
theorem frontNames_walk {H : Type} {enc : TypeId × Value → H} (W : World) (base : Nat)   (hz : (DataW.weightsEach Try.prog [] ([] : List (DataW H))).all (· ≤ reachBytes) = true) (hsh : W.ShapedOpen Try.prog) :
    Calls Try.prog 5 #[] W fun e W' => e = .returned (.bool true) ∧ Below W.heap.size W W' := by
  go_enter Try.func5, Try.ntmps5
  go_wp2
  go_ret
  exact ⟨rfl, Below.refl _ _⟩
end Go.Proofs.Ytkjmlcgbakkacaa
