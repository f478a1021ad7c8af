/-
  The variable internal/bytealg.MaxLen holds a number, in whatever world that has its variables' shapes.
-/
import Derived.Test.YtphoflcilpopgaaGreatDoorRows
import Derived.Test.YtphoflcilpopgaaGreatDoorGBase
import Derived.Test.YtphoflcilpopgaaGreatDoorSShelf
import Derived.Test.YtphoflcilpopgaaGreatDoorSSigned
set_option linter.unusedVariables false
namespace Go.Proofs.YtphoflcilpopgaaGreatDoor
open Go.RowKit Go.Lib
theorem max_is {w : World} (h : w.ShapedOpen Tryz.prog) : MaxOk w :=
  Go.Proofs.cell_of_shapedOpen_int (zero := #[.int .i64 0]) (t := 3) h (of_decide_eq_true (by kernel_rfl)) (by kernel_rfl) rfl (by kernel_rfl) (by kernel_rfl) Tryz.underlying3
end Go.Proofs.YtphoflcilpopgaaGreatDoor
