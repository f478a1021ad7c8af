/-
  CONTRACT of play.Text: the script of a list of steps.
-/
import Derived.Test.YtnkioabdpploeaaGreatDoorRows
import Derived.Deep.RegionHeld3
import Derived.Test.YtnkioabdpploeaaGreatDoorGBase
import Derived.Test.YtnkioabdpploeaaGreatDoorSRScript
import Derived.Test.YtnkioabdpploeaaGreatDoorSPlayJ
import Derived.Test.YtnkioabdpploeaaGreatDoorGTx
import Derived.Test.YtnkioabdpploeaaGreatDoorSWords
set_option linter.unusedVariables false
set_option linter.unusedSimpArgs false
namespace Go.Proofs.YtnkioabdpploeaaGreatDoor
open Go.RowKit Go.Lib
end Go.Proofs.YtnkioabdpploeaaGreatDoor
