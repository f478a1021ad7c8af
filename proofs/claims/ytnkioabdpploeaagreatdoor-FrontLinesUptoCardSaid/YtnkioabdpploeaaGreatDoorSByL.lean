/-
  PLAIN LAWS for PlayByLines: two scripts one behind the other.
-/
import Derived.Test.YtnkioabdpploeaaGreatDoorRows
import Derived.Test.YtnkioabdpploeaaGreatDoorGBase
import Derived.Test.YtnkioabdpploeaaGreatDoorSStepP
import Derived.Test.YtnkioabdpploeaaGreatDoorSDecP
set_option linter.unusedVariables false
namespace Go.Proofs.YtnkioabdpploeaaGreatDoor
open Go.RowKit Go.Lib
end Go.Proofs.YtnkioabdpploeaaGreatDoor
