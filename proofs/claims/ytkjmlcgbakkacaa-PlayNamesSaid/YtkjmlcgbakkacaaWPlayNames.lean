/-
  THE WALK of the closed statement PlayNames.
-/
import Derived.Test.YtkjmlcgbakkacaaRows
import Derived.Test.YtkjmlcgbakkacaaWd
import Derived.Test.YtkjmlcgbakkacaaErrno
set_option linter.unusedVariables false
namespace Go.Proofs.Ytkjmlcgbakkacaa
open Go.RowKit
theorem playNames_walk {H : Type} {enc : TypeId × Value → H} (W : World) (base : Nat)   (hz : (DataW.weightsEach Try.prog [] ([] : List (DataW H))).all (· ≤ reachBytes) = true) (hsh : W.ShapedOpen Try.prog) :
    Calls Try.prog 6 #[] W fun e W' => e = .returned (.bool true) ∧ Below W.heap.size W W' := by
  have h1 : errText 300 = [117, 110, 107, 110, 111, 119, 110, 32, 115, 116, 101, 112] := by decide +kernel
  have h2 : errText 42 = [98, 97, 100, 32, 110, 117, 109, 98, 101, 114] := by decide +kernel
  have h3 : errText 44 = [98, 97, 100, 32, 101, 115, 99, 97, 112, 101] := by decide +kernel
  have k1 := fun w => error_any 300 w
  have k2 := fun w => error_any 42 w
  have k3 := fun w => error_any 44 w
  rw [h1] at k1; rw [h2] at k2; rw [h3] at k3
  have K1 := hide k1; have K2 := hide k2; have K3 := hide k3
  clear k1 k2 k3 h1 h2 h3
  go_enter Try.func6, Try.ntmps6
  go_wp2_with fail
  refine (unhide K1 _).mono ?_; rintro e w1 ⟨rfl, b1⟩
  go_wp2_with fail
  refine (unhide K2 _).mono ?_; rintro e w2 ⟨rfl, b2⟩
  go_wp2_with fail
  refine (unhide K3 _).mono ?_; rintro e w3 ⟨rfl, b3⟩
  go_wp2
  go_ret
  exact ⟨rfl, (b1.trans (b2.mono b1.size)).trans (b3.mono (Nat.le_trans b1.size b2.size))⟩
end Go.Proofs.Ytkjmlcgbakkacaa
