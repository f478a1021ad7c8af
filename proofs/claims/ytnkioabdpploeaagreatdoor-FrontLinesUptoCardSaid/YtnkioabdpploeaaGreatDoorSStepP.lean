/-
  Several texts in one: PLAIN LAWS: a step read from its words; a script read line by line. | CONTRACTS of play.number, play.word, play.numbers.
-/
import Derived.Test.YtnkioabdpploeaaGreatDoorRows
import Derived.Test.YtnkioabdpploeaaGreatDoorGBase
import Derived.Test.YtnkioabdpploeaaGreatDoorGDecs
import Derived.Test.YtnkioabdpploeaaGreatDoorSREsc
import Derived.Test.YtnkioabdpploeaaGreatDoorSTWords
import Derived.Test.YtnkioabdpploeaaGreatDoorGLns
import Derived.Test.YtnkioabdpploeaaGreatDoorSRLine
set_option linter.unusedVariables false
namespace Go.Proofs.YtnkioabdpploeaaGreatDoor
open Go.RowKit Go.Lib
/-- Words as numbers, all or none. -/
def numsO : List ByteArray → Option (List Int)
  | [] => some []
  | x :: r => match undV x with
    | none => none
    | some z => (numsO r).map (z :: ·)
end Go.Proofs.YtnkioabdpploeaaGreatDoor

set_option linter.unusedVariables false
set_option linter.unusedSimpArgs false
namespace Go.Proofs.YtnkioabdpploeaaGreatDoor
open Go.RowKit Go.Lib
end Go.Proofs.YtnkioabdpploeaaGreatDoor
