/-
  CONTRACTS of the law's few and some.
-/
import Derived.Test.YtnkioabdpploeaaGreatDoorRows
import Derived.Test.YtnkioabdpploeaaGreatDoorGBase
import Derived.Test.YtnkioabdpploeaaGreatDoorGLns
import Derived.Test.YtnkioabdpploeaaGreatDoorSTwinI
import Derived.Test.YtnkioabdpploeaaGreatDoorSRStepA
import Derived.Test.YtnkioabdpploeaaGreatDoorSTWords
set_option linter.unusedVariables false
set_option linter.unusedSimpArgs false
namespace Go.Proofs.YtnkioabdpploeaaGreatDoor
open Go.RowKit Go.Lib
theorem intsAt_at {w : World} {A : Option Addr} {m c : Nat} {es : List Int} (h : IntsAt w (.slice A m c) es) (j : Nat) (hj : j < es.length) : ∃ a, A = some a ∧ w.cell? (a.add j) = some (.int .i64 es[j]) := by
  obtain ⟨A', c', hv, hc⟩ := h
  injection hv with e1 e2 e3
  subst e1
  exact hc j hj
end Go.Proofs.YtnkioabdpploeaaGreatDoor
