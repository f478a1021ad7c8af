/-
  WORDS on base64 read back: the answer as a value.
-/
import Derived.Test.YtphjpdnheaeghaaDoorRows
import Derived.Test.YtphjpdnheaeghaaDoorWd
import Derived.Test.YtphjpdnheaeghaaDoorUnBP
set_option linter.unusedVariables false
set_option linter.unusedSimpArgs false
namespace Go.Proofs.YtphjpdnheaeghaaDoor
open Go.RowKit Go.Lib
/-- What UnB64 answers. -/
def unbA (s : ByteArray) : Value := match unb64V s with
  | some t => .tuple #[.string t, .int .i64 0]
  | none => .tuple #[.string ⟨#[]⟩, .int .i64 40]
theorem unbA_some {s t : ByteArray} (h : unb64V s = some t) : unbA s = .tuple #[.string t, .int .i64 0] := by unfold unbA; rw [h]
theorem unbA_none {s : ByteArray} (h : unb64V s = none) : unbA s = .tuple #[.string ⟨#[]⟩, .int .i64 40] := by unfold unbA; rw [h]
end Go.Proofs.YtphjpdnheaeghaaDoor
