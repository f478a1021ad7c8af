/-
  CONTRACT of the document's row: the shapes of the steps.
-/
import Derived.Test.YtphjpdnheaeghaaDoorRows
import Derived.Test.YtphjpdnheaeghaaDoorWd
import Derived.Test.YtphjpdnheaeghaaDoorPlayT
import Derived.Laws.ResultCell
import Derived.Laws.Rows
set_option linter.unusedVariables false
set_option linter.unusedSimpArgs false
namespace Go.Proofs.YtphjpdnheaeghaaDoor
open Go.RowKit Go.Lib
def rowV (f : ShapeR) : Value := .agg #[.string f.wd, .int .i64 (f.a : Int), .int .i64 (f.b : Int), .int .i64 (f.more : Int), .bool f.opts]
end Go.Proofs.YtphjpdnheaeghaaDoor
