/-
  CONTRACTS of package text: a text is parted, and parted into lines.
-/
import Derived.Test.YtphjpdnheaeghaaDoorRows
import Derived.Test.YtphjpdnheaeghaaDoorWd
import Derived.Test.YtphjpdnheaeghaaDoorCopyStr
import Derived.Test.YtphjpdnheaeghaaDoorStrRow
import Derived.Test.YtphjpdnheaeghaaDoorLinesP
import Derived.StillTailTactics
import Derived.Deep.RegionHeld3
set_option linter.unusedVariables false
set_option linter.unusedSimpArgs false
namespace Go.Proofs.YtphjpdnheaeghaaDoor
open Go.RowKit Go.Lib
theorem ext_seg (s : ByteArray) (a b : Nat) (hab : a ≤ b) (hb : b ≤ s.size) : s.extract a b = bsL (segL s.data.toList a b) := by
  apply ByteArray.ext
  apply Array.ext'
  rw [bytes_extract _ _ _ hb]
  rfl
/-- What Lines answers. -/
def LinesA (base : Nat) (s : ByteArray) (v : Value) (w : World) : Prop := match linesV s with
  | some es => ∃ u, v = .tuple #[u, .int .i64 0] ∧ OwnT w base u es
  | none => v = .tuple #[.slice none 0 0, .int .i64 43]
theorem LinesA.some {base : Nat} {s : ByteArray} {v : Value} {w : World} {es : List ByteArray} (h : linesV s = some es) (u : Value) (hv : v = .tuple #[u, .int .i64 0]) (hO : OwnT w base u es) : LinesA base s v w := by
  unfold LinesA; rw [h]; exact ⟨u, hv, hO⟩
theorem LinesA.none {base : Nat} {s : ByteArray} {v : Value} {w : World} (h : linesV s = none) (hv : v = .tuple #[.slice none 0 0, .int .i64 43]) : LinesA base s v w := by
  unfold LinesA; rw [h]; exact hv
theorem LinesA.get {base : Nat} {s : ByteArray} {v : Value} {w : World} (h : LinesA base s v w) : (∃ es u, linesV s = .some es ∧ v = .tuple #[u, .int .i64 0] ∧ OwnT w base u es) ∨ (linesV s = .none ∧ v = .tuple #[.slice .none 0 0, .int .i64 43]) := by
  unfold LinesA at h
  cases hl : linesV s with
  | none => rw [hl] at h; exact .inr ⟨rfl, h⟩
  | some es => rw [hl] at h; obtain ⟨u, h1, h2⟩ := h; exact .inl ⟨es, u, rfl, h1, h2⟩
end Go.Proofs.YtphjpdnheaeghaaDoor
