/-
  CONTRACT of annalsref27.Tell.
-/
import Derived.Test.YtnkioabdpploeaaGreatDoorRows
import Derived.Test.YtnkioabdpploeaaGreatDoorGBase
import Derived.Test.YtnkioabdpploeaaGreatDoorSRJoined
set_option linter.unusedVariables false
set_option linter.unusedSimpArgs false
namespace Go.Proofs.YtnkioabdpploeaaGreatDoor
open Go.RowKit Go.Lib
/-- A reply whose line is not too long. -/
structure RpOk (r : RpR) : Prop where
  c : In64 r.c
  n : ∀ z ∈ r.ns, In64 z
  s : ∀ x ∈ r.ss, x.size ≤ 1099511627776
  l : r.ns.length + r.ss.length ≤ 1099511627000
  z : (tellB r).size ≤ 140737488355328
theorem tellB_eq (r : RpR) : tellB r = lnJ (decS r.c ++ ⟨#[32]⟩ ++ decS r.ns.length) (r.ns.map decS ++ r.ss.map escS) := by
  rw [← lnJ_one, ← lnJ_app]
  apply bs_eq
  show joinSp (tellW r) = (decS r.c).data.toList ++ spaced _
  unfold tellW
  rw [joinSp_cons]; rfl
end Go.Proofs.YtnkioabdpploeaaGreatDoor
