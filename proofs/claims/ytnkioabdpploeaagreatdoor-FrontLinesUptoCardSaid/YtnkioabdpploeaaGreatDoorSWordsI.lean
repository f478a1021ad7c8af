/-
  THE STATE of play.words' loop: what stands, and what keeps it.
-/
import Derived.Test.YtnkioabdpploeaaGreatDoorRows
import Derived.Test.YtnkioabdpploeaaGreatDoorGBase
import Derived.Test.YtnkioabdpploeaaGreatDoorGLns
import Derived.Test.YtnkioabdpploeaaGreatDoorGDecs
import Derived.Test.YtnkioabdpploeaaGreatDoorSEsc
import Derived.Test.YtnkioabdpploeaaGreatDoorSShapes
import Derived.Test.YtnkioabdpploeaaGreatDoorSStepP
set_option linter.unusedVariables false
set_option linter.unusedSimpArgs false
namespace Go.Proofs.YtnkioabdpploeaaGreatDoor
open Go.RowKit Go.Lib
end Go.Proofs.YtnkioabdpploeaaGreatDoor
