/-
  PLAIN LAWS of scripts: a word escaped; the words of a step, as the program gathers them and as the document counts them.
-/
import Derived.Test.YtnkioabdpploeaaGreatDoorRows
import Derived.Test.YtnkioabdpploeaaGreatDoorGBase
import Derived.Test.YtnkioabdpploeaaGreatDoorGDecs
set_option linter.unusedVariables false
set_option linter.unusedSimpArgs false
namespace Go.Proofs.YtnkioabdpploeaaGreatDoor
open Go.RowKit
def hexS : ByteArray := ⟨#[48, 49, 50, 51, 52, 53, 54, 55, 56, 57, 65, 66, 67, 68, 69, 70]⟩
def hexB (v : Nat) : UInt8 := hexS.data.getD v 0
/-- A byte, escaped if it must be. -/
def escB (c : UInt8) : List UInt8 := if 32 < c.toNat ∧ c.toNat < 127 ∧ c ≠ 37 then [c] else [37, hexB (c.toNat / 16), hexB (c.toNat % 16)]
def escL (l : List UInt8) : List UInt8 := if l = [] then [37] else l.flatMap escB
def escS (s : ByteArray) : ByteArray := ⟨(escL s.data.toList).toArray⟩
theorem escB_len (c : UInt8) : 1 ≤ (escB c).length ∧ (escB c).length ≤ 3 := by unfold escB; split <;> simp
theorem escL_len : ∀ l : List UInt8, (l.flatMap escB).length ≤ 3 * l.length
  | [] => by simp
  | c :: r => by
    have h1 := escB_len c
    have h2 := escL_len r
    rw [List.flatMap_cons, List.length_append, List.length_cons]; omega
theorem escS_size (s : ByteArray) : (escS s).size ≤ 3 * s.size + 1 := by
  show (escL s.data.toList).toArray.size ≤ _
  rw [List.size_toArray]
  unfold escL
  have hl : s.data.toList.length = s.size := Array.length_toList
  split
  · simp
  · have := escL_len s.data.toList
    omega
/-- A step, as its parts. -/
structure StepR where
  kind : Int
  o : List Int
  ns : List Int
  ss : List ByteArray
end Go.Proofs.YtnkioabdpploeaaGreatDoor
