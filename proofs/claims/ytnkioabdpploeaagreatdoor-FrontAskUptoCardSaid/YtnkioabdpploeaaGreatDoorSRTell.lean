/-
  Several texts in one: CONTRACT of annalsref27.Tell. | CONTRACT of front.Tell.
-/
import Derived.Test.YtnkioabdpploeaaGreatDoorRows
import Derived.Deep.RegionHeld3
import Derived.Test.YtnkioabdpploeaaGreatDoorGBase
import Derived.Test.YtnkioabdpploeaaGreatDoorSRJoined
import Derived.Test.YtnkioabdpploeaaGreatDoorSFLine
set_option linter.unusedVariables false
set_option linter.unusedSimpArgs false
namespace Go.Proofs.YtnkioabdpploeaaGreatDoor
open Go.RowKit Go.Lib
end Go.Proofs.YtnkioabdpploeaaGreatDoor

set_option linter.unusedVariables false
set_option linter.unusedSimpArgs false
namespace Go.Proofs.YtnkioabdpploeaaGreatDoor
open Go.RowKit Go.Lib
structure TX (w W : World) (cs : Array Value) : Prop where
  b : Below w.heap.size w W
  x : Blk W w.heap.size 44 cs
theorem TX.next {w W W' : World} {cs : Array Value} (h : TX w W cs) (hb : Below W.heap.size W W') : TX w W' cs := ⟨h.b.trans (hb.mono h.b.size), h.x.below hb h.x.lt⟩
theorem TX.drew {w W : World} {cs : Array Value} (h : TX w W cs) : TX w W.drew cs := ⟨h.b.drew, h.x.drew⟩
end Go.Proofs.YtnkioabdpploeaaGreatDoor
