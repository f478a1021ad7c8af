/-
  CONTRACT of the document's line: a step's line in a script.
-/
import Derived.Test.YtnkioabdpploeaaGreatDoorRows
import Derived.StillTailTactics
import Derived.Deep.RegionHeld3
import Derived.Deep.RegionLaw
import Derived.Deep.DeepCutAuto
import Derived.Deep.CutBlock
import Derived.Deep.CutRange
import Derived.Test.YtnkioabdpploeaaGreatDoorGBase
import Derived.Test.YtnkioabdpploeaaGreatDoorGLns
import Derived.Test.YtnkioabdpploeaaGreatDoorGDecs
import Derived.Test.YtnkioabdpploeaaGreatDoorSREsc
import Derived.Test.YtnkioabdpploeaaGreatDoorSRRow
set_option linter.unusedVariables false
set_option linter.unusedSimpArgs false
namespace Go.Proofs.YtnkioabdpploeaaGreatDoor
open Go.RowKit Go.Lib
/-- A list of numbers as the program reads it. -/
def IntsAt (w : World) (v : Value) (l : List Int) : Prop := ∃ A c, v = .slice A l.length c ∧ ∀ j (h : j < l.length), ∃ a, A = some a ∧ w.cell? (a.add j) = some (.int .i64 l[j])
theorem IntsAt.below {w w' : World} {v : Value} {l : List Int} (h : IntsAt w v l) (hb : Below w.heap.size w w') : IntsAt w' v l := by
  obtain ⟨A, c, hv, he⟩ := h
  refine ⟨A, c, hv, fun j hj => ?_⟩
  obtain ⟨a, ha, hc⟩ := he j hj
  exact ⟨a, ha, (hb.cell (World.block_lt_of_cell? w _ hc)).trans hc⟩
/-- How long texts are in all, a sign more for each. -/
def sizeS (ss : List ByteArray) : Nat := ss.foldr (fun x n => x.size + 1 + n) 0
/-- A number that an int holds. -/
def In64 (n : Int) : Prop := -9223372036854775808 ≤ n ∧ n ≤ 9223372036854775807
theorem decS_size {n : Int} (h : In64 n) : (decS n).size ≤ 20 := by
  show (decL n).toArray.size ≤ 20
  rw [List.size_toArray]
  unfold decL
  obtain ⟨h0, h1⟩ := h
  split
  · have := digL_length 19 n.toNat (by omega) (by omega); omega
  · have := digL_length 19 (-n).toNat (by omega) (by omega)
    rw [List.length_cons]; omega
theorem sizeS_mem : ∀ {ss : List ByteArray} {x : ByteArray}, x ∈ ss → x.size ≤ sizeS ss
  | y :: r, x, h => by
    show _ ≤ y.size + 1 + sizeS r
    rcases List.mem_cons.1 h with rfl | h
    · omega
    · have := sizeS_mem h; omega
end Go.Proofs.YtnkioabdpploeaaGreatDoor
