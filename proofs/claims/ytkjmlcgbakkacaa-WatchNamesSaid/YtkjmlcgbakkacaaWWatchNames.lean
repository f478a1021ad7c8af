/-
  THE WALK of the closed statement WatchNames.
-/
import Derived.Test.YtkjmlcgbakkacaaRows
import Derived.Test.YtkjmlcgbakkacaaWd
set_option linter.unusedVariables false
namespace Go.Proofs.Ytkjmlcgbakkacaa
open Go.RowKit
theorem watchNames_walk {H : Type} {enc : TypeId × Value → H} (W : World) (base : Nat)   (hz : (DataW.weightsEach Try.prog [] ([] : List (DataW H))).all (· ≤ reachBytes) = true) (hsh : W.ShapedOpen Try.prog) :
    Calls Try.prog 3 #[] W fun e W' => e = .returned (.bool true) ∧ Below W.heap.size W W' := by
  go_enter Try.func3, Try.ntmps3
  go_wp2
  go_ret
  exact ⟨rfl, Below.refl _ _⟩
end Go.Proofs.Ytkjmlcgbakkacaa
