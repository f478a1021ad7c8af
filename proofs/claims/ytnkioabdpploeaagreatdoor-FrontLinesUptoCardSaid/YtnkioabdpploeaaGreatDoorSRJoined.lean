/-
  CONTRACT of annalsref27.joined.
-/
import Derived.Test.YtnkioabdpploeaaGreatDoorRows
import Derived.Test.YtnkioabdpploeaaGreatDoorGBase
import Derived.Test.YtnkioabdpploeaaGreatDoorSFNums
set_option linter.unusedVariables false
set_option linter.unusedSimpArgs false
namespace Go.Proofs.YtnkioabdpploeaaGreatDoor
open Go.RowKit Go.Lib
def lnJ (T : ByteArray) (l : List ByteArray) : ByteArray := bsL (T.data.toList ++ spaced l)
theorem lnJ_size (T : ByteArray) (l : List ByteArray) : (lnJ T l).size = T.size + (spaced l).length := by
  show (List.toArray _).size = _
  rw [List.size_toArray, List.length_append]
  rw [show T.data.toList.length = T.size from Array.length_toList]
theorem spaced_sub (a b : List ByteArray) : (spaced (a ++ b)).length = (spaced a).length + (spaced b).length := by
  unfold spaced; rw [List.flatMap_append, List.length_append]
theorem lnJ_app (T : ByteArray) (a b : List ByteArray) : lnJ T (a ++ b) = lnJ (lnJ T a) b := by
  apply bs_eq
  show T.data.toList ++ spaced (a ++ b) = (T.data.toList ++ spaced a) ++ spaced b
  unfold spaced; rw [List.flatMap_append, List.append_assoc]
theorem lnJ_one (T : ByteArray) (x : ByteArray) : lnJ T [x] = T ++ ⟨#[32]⟩ ++ x := by
  apply bs_eq
  show T.data.toList ++ spaced [x] = _
  unfold spaced
  simp [ByteArray.data_append, Array.toList_append]
end Go.Proofs.YtnkioabdpploeaaGreatDoor
