/-
  CONTRACT of package note: written.
-/
import Derived.Test.YtphoflcilpopgaaGreatDoorRows
import Derived.Deep.RegionHeld3
import Derived.Test.YtphoflcilpopgaaGreatDoorGBase
import Derived.Test.YtphoflcilpopgaaGreatDoorSShelf
import Derived.Test.YtphoflcilpopgaaGreatDoorGTx
import Derived.Test.YtphoflcilpopgaaGreatDoorGDecs
import Derived.Test.YtphoflcilpopgaaGreatDoorSRAmong
import Derived.Test.YtphoflcilpopgaaGreatDoorGSigs
set_option linter.unusedVariables false
set_option linter.unusedSimpArgs false
namespace Go.Proofs.YtphoflcilpopgaaGreatDoor
open Go.RowKit Go.Lib
/-- A note. -/
def sigsL (xs : List SigR) : List UInt8 := xs.flatMap fun x => (sigLine x).data.toList
def writL (t : ByteArray) (xs : List SigR) : List UInt8 := t.data.toList ++ [10] ++ sigsL xs
def writB (t : ByteArray) (xs : List SigR) : ByteArray := ⟨(writL t xs).toArray⟩
/-- What written answers. -/
def writA (t : ByteArray) (xs : List SigR) : Value := if 65536 < (writL t xs).length then .tuple #[.string ⟨#[]⟩, .int .i64 121] else .tuple #[.string (writB t xs), .int .i64 0]
theorem sigsL_take_succ (xs : List SigR) (k : Nat) (h : k < xs.length) : sigsL (xs.take (k + 1)) = sigsL (xs.take k) ++ (sigLine xs[k]).data.toList := by
  unfold sigsL
  rw [List.take_succ_eq_append_getElem h, List.flatMap_append]
  simp
theorem sigsL_take_le (xs : List SigR) (k : Nat) : (sigsL (xs.take k)).length ≤ (sigsL xs).length := by
  have h : sigsL xs = sigsL (xs.take k) ++ sigsL (xs.drop k) := by
    unfold sigsL
    rw [← List.flatMap_append, List.take_append_drop]
  rw [h, List.length_append]
  omega
theorem sigLine_size (x : SigR) : (sigLine x).size = 6 + x.nm.size + (b64S (x.id ++ x.mc)).size := by
  unfold sigLine
  simp only [ByteArray.size_append, show (⟨#[226, 128, 148, 32]⟩ : ByteArray).size = 4 from rfl, show (⟨#[32]⟩ : ByteArray).size = 1 from rfl, show (⟨#[10]⟩ : ByteArray).size = 1 from rfl]
  omega
theorem sigsL_at (xs : List SigR) (k : Nat) (h : k < xs.length) : (sigLine xs[k]).size ≤ (sigsL xs).length := by
  have h1 := sigsL_take_le xs (k + 1)
  rw [sigsL_take_succ xs k h, List.length_append] at h1
  have h2 : (sigLine xs[k]).data.toList.length = (sigLine xs[k]).size := Array.length_toList
  omega
end Go.Proofs.YtphoflcilpopgaaGreatDoor
