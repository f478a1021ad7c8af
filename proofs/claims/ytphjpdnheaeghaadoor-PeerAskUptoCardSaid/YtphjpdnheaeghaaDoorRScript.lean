/-
  CONTRACT of the document's Text of a script.
-/
import Derived.Test.YtphjpdnheaeghaaDoorRows
import Derived.Test.YtphjpdnheaeghaaDoorWd
import Derived.Test.YtphjpdnheaeghaaDoorRLine
set_option linter.unusedVariables false
set_option linter.unusedSimpArgs false
namespace Go.Proofs.YtphjpdnheaeghaaDoor
open Go.RowKit Go.Lib
/-- A step's nine cells. -/
def StepAt (w : World) (p : Addr) (s : StepR) : Prop :=
  ∃ vn vs a b c d e f, s.o = [a, b, c, d, e, f] ∧ w.cell? p = some (.int .i64 s.kind) ∧ w.cell? ⟨p.block, p.off + 1, none⟩ = some vn ∧ w.cell? ⟨p.block, p.off + 2, none⟩ = some vs ∧ w.cell? ⟨p.block, p.off + 3, none⟩ = some (.int .i64 a) ∧ w.cell? ⟨p.block, p.off + 4, none⟩ = some (.int .i64 b) ∧ w.cell? ⟨p.block, p.off + 5, none⟩ = some (.int .i64 c) ∧ w.cell? ⟨p.block, p.off + 6, none⟩ = some (.int .i64 d) ∧ w.cell? ⟨p.block, p.off + 7, none⟩ = some (.int .i64 e) ∧ w.cell? ⟨p.block, p.off + 8, none⟩ = some (.int .i64 f) ∧ IntsAt w vn s.ns ∧ StrsAt w vs s.ss
/-- A list of steps as the program reads it. -/
def StepsAt (w : World) (v : Value) (l : List StepR) : Prop := ∃ A cap, v = .slice A l.length cap ∧ ∀ j (h : j < l.length), ∃ p, A = some p ∧ StepAt w (p.add (j * 9)) l[j]
def StepOk (s : StepR) : Prop := (∀ n ∈ s.ns, In64 n) ∧ (∀ n ∈ s.o, In64 n) ∧ s.ns.length ≤ 1099511627776 ∧ sizeS s.ss ≤ 1048576
theorem scriptL_take (l : List StepR) (j : Nat) (h : j < l.length) : scriptL (l.take (j + 1)) = scriptL (l.take j) ++ lineP l[j] := by
  rw [List.take_succ_eq_append_getElem h, scriptL_snoc]
theorem scriptL_le (l : List StepR) (j : Nat) : (scriptL (l.take j)).length ≤ (scriptL l).length := by
  have h : scriptL l = scriptL (l.take j) ++ scriptL (l.drop j) := by
    unfold scriptL
    rw [← List.flatMap_append, List.take_append_drop]
  rw [h, List.length_append]; omega
def scriptB (l : List StepR) : ByteArray := ⟨(scriptL l).toArray⟩
end Go.Proofs.YtphjpdnheaeghaaDoor
