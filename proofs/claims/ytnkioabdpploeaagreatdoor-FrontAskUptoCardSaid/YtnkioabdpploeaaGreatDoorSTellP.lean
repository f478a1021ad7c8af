/-
  PLAIN LAW of FrontTell: the reply's line, read by either side.
-/
import Derived.Test.YtnkioabdpploeaaGreatDoorRows
import Derived.Test.YtnkioabdpploeaaGreatDoorGBase
import Derived.Test.YtnkioabdpploeaaGreatDoorSTWords
import Derived.Test.YtnkioabdpploeaaGreatDoorSRScript
import Derived.Test.YtnkioabdpploeaaGreatDoorSBackL
set_option linter.unusedVariables false
set_option linter.unusedSimpArgs false
namespace Go.Proofs.YtnkioabdpploeaaGreatDoor
open Go.RowKit Go.Lib
/-- The number that a word says, or none: nought. -/
def numV (x : ByteArray) : Int := (undV x).getD 0
theorem numV_in (x : ByteArray) : In64 (numV x) := by
  unfold numV
  cases h : undV x with
  | none => simp [In64]
  | some z => exact (undV_some h).2
theorem numsO_map : ∀ {l : List ByteArray} {ns : List Int}, numsO l = some ns → l.map numV = ns
  | [], ns, h => by simp [numsO] at h; subst h; rfl
  | x :: r, ns, h => by
    rw [numsO] at h
    cases hx : undV x with
    | none => rw [hx] at h; cases h
    | some z =>
      rw [hx] at h
      obtain ⟨q, hq, rfl⟩ := Option.map_eq_some_iff.1 h
      rw [List.map_cons, numsO_map hq]
      unfold numV
      rw [hx]; rfl
end Go.Proofs.YtnkioabdpploeaaGreatDoor
