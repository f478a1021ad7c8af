/-
  CONTRACT of front.Told.
-/
import Derived.Test.YtnkioabdpploeaaGreatDoorRows
import Derived.Test.YtnkioabdpploeaaGreatDoorGBase
import Derived.Test.YtnkioabdpploeaaGreatDoorSFToldA
import Derived.Test.YtnkioabdpploeaaGreatDoorSRTell
import Derived.Test.YtnkioabdpploeaaGreatDoorSFNums
import Derived.Test.YtnkioabdpploeaaGreatDoorGTld
import Derived.Test.YtnkioabdpploeaaGreatDoorSFew
import Derived.Test.YtnkioabdpploeaaGreatDoorGApt
set_option linter.unusedVariables false
set_option linter.unusedSimpArgs false
namespace Go.Proofs.YtnkioabdpploeaaGreatDoor
open Go.RowKit Go.Lib
end Go.Proofs.YtnkioabdpploeaaGreatDoor
