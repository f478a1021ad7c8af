/-
  CONTRACT of the document's row: the shapes of the steps.
-/
import Derived.Test.YtnkioabdpploeaaGreatDoorRows
import Derived.Laws.ResultCell
import Derived.Laws.Rows
import Derived.Test.YtnkioabdpploeaaGreatDoorGBase
import Derived.Test.YtnkioabdpploeaaGreatDoorSREsc
set_option linter.unusedVariables false
set_option linter.unusedSimpArgs false
namespace Go.Proofs.YtnkioabdpploeaaGreatDoor
open Go.RowKit Go.Lib
end Go.Proofs.YtnkioabdpploeaaGreatDoor
