/-
  Several texts in one: CONTRACT of the document's Escape. | PLAIN WORDS of scripts: the shapes of the steps, and the text of a script.
-/
import Derived.Test.YtnkioabdpploeaaGreatDoorRows
import Derived.StillTailTactics
import Derived.Deep.RegionHeld3
import Derived.Deep.RegionLaw
import Derived.Test.YtnkioabdpploeaaGreatDoorGBase
import Derived.Test.YtnkioabdpploeaaGreatDoorGDecs
import Derived.Test.YtnkioabdpploeaaGreatDoorSPlayP
set_option linter.unusedVariables false
set_option linter.unusedSimpArgs false
namespace Go.Proofs.YtnkioabdpploeaaGreatDoor
open Go.RowKit Go.Lib
end Go.Proofs.YtnkioabdpploeaaGreatDoor

set_option linter.unusedVariables false
set_option linter.unusedSimpArgs false
namespace Go.Proofs.YtnkioabdpploeaaGreatDoor
open Go.RowKit
def joinSp : List ByteArray → List UInt8
  | [] => []
  | [x] => x.data.toList
  | x :: r => x.data.toList ++ 32 :: joinSp r
def spaced (l : List ByteArray) : List UInt8 := l.flatMap fun x => 32 :: x.data.toList
theorem joinSp_cons (x : ByteArray) : ∀ l : List ByteArray, joinSp (x :: l) = x.data.toList ++ spaced l
  | [] => by simp [joinSp, spaced]
  | y :: r => by
    rw [joinSp, joinSp_cons y r]
    · simp [spaced]
    · simp
end Go.Proofs.YtnkioabdpploeaaGreatDoor
