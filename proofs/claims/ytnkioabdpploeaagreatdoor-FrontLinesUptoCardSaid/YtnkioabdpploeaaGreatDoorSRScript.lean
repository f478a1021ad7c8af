/-
  CONTRACT of the document's Text of a script.
-/
import Derived.Test.YtnkioabdpploeaaGreatDoorRows
import Derived.Test.YtnkioabdpploeaaGreatDoorGBase
import Derived.Test.YtnkioabdpploeaaGreatDoorSRLine
set_option linter.unusedVariables false
set_option linter.unusedSimpArgs false
namespace Go.Proofs.YtnkioabdpploeaaGreatDoor
open Go.RowKit Go.Lib
/-- A step's nine cells. -/
def StepAt (w : World) (p : Addr) (s : StepR) : Prop :=
  ∃ vn vs a b c d e f, s.o = [a, b, c, d, e, f] ∧ w.cell? p = some (.int .i64 s.kind) ∧ w.cell? ⟨p.block, p.off + 1, none⟩ = some vn ∧ w.cell? ⟨p.block, p.off + 2, none⟩ = some vs ∧ w.cell? ⟨p.block, p.off + 3, none⟩ = some (.int .i64 a) ∧ w.cell? ⟨p.block, p.off + 4, none⟩ = some (.int .i64 b) ∧ w.cell? ⟨p.block, p.off + 5, none⟩ = some (.int .i64 c) ∧ w.cell? ⟨p.block, p.off + 6, none⟩ = some (.int .i64 d) ∧ w.cell? ⟨p.block, p.off + 7, none⟩ = some (.int .i64 e) ∧ w.cell? ⟨p.block, p.off + 8, none⟩ = some (.int .i64 f) ∧ IntsAt w vn s.ns ∧ StrsAt w vs s.ss
/-- A list of steps as the program reads it. -/
def StepsAt (w : World) (v : Value) (l : List StepR) : Prop := ∃ A cap, v = .slice A l.length cap ∧ ∀ j (h : j < l.length), ∃ p, A = some p ∧ StepAt w (p.add (j * 9)) l[j]
end Go.Proofs.YtnkioabdpploeaaGreatDoor
