/-
  CONTRACTS of strings.Builder at this dump: copyCheck and WriteString (the shelf's could not be laid: the toy's body names one type more).
-/
import Derived.Test.YtnkioabdpploeaaGreatDoorRows
import Derived.Lib.FrozenHead
import Derived.Lib.OthersKept
import Derived.Test.YtnkioabdpploeaaGreatDoorGBase
set_option linter.unusedVariables false
set_option linter.unusedSimpArgs false
namespace Go.Proofs.YtnkioabdpploeaaGreatDoor
open Go.RowKit Go.Lib
end Go.Proofs.YtnkioabdpploeaaGreatDoor
