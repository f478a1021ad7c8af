/-
  The variable internal/bytealg.MaxLen holds a number, in whatever world that has its variables' shapes.
-/
import Derived.Test.YtfhaoamlagnpjaaDoorRows
import Derived.Test.YtfhaoamlagnpjaaDoorGBase
import Derived.Test.YtfhaoamlagnpjaaDoorSShelf
import Derived.Test.YtfhaoamlagnpjaaDoorSSigned
set_option linter.unusedVariables false
namespace Go.Proofs.YtfhaoamlagnpjaaDoor
open Go.RowKit Go.Lib
theorem max_is {w : World} (h : w.ShapedOpen Tryd.prog) : MaxOk w :=
  Go.Proofs.cell_of_shapedOpen_int (zero := #[.int .i64 0]) (t := 3) h (of_decide_eq_true (by kernel_rfl)) (by kernel_rfl) rfl (by kernel_rfl) (by kernel_rfl) Tryd.underlying3
end Go.Proofs.YtfhaoamlagnpjaaDoor
