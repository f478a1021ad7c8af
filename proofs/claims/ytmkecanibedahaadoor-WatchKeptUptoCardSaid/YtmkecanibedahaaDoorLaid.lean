/-
  FROM THE ROW's CONDITION ON THE LAID TABLES to what the walks read.
-/
import Derived.Test.YtmkecanibedahaaDoorRows
import Derived.Test.YtmkecanibedahaaDoorWd
import Derived.Test.YtmkecanibedahaaDoorShaH
import Derived.Test.YtmkecanibedahaaDoorShaD
import Derived.Test.YtmkecanibedahaaDoorShaE
import Derived.Test.YtmkecanibedahaaDoorShaK
import Derived.Lib.LaidTab
import Derived.Test.YtmkecanibedahaaDoorLaidPlain
set_option linter.unusedVariables false
set_option linter.unusedSimpArgs false
namespace Go.Proofs.YtmkecanibedahaaDoor
open Go.RowKit Go.Lib
theorem tabOk_of {w : World} (h : TabIs Tryd.prog w "annals/sha.table" .u32 shaK) : TabOk w := fun i hi =>
  h.cell (g := 3) (by kernel_rfl) i hi
theorem beginOk_of {w : World} (h : TabIs Tryd.prog w "annals/sha.begin" .u32 shaInit) : BeginOk w := fun i hi =>
  h.cell (g := 1) (by kernel_rfl) i hi
theorem tabOkR_of {w : World} (h : TabIs Tryd.prog w "annals/annalsref2.table" .u32 shaK) : TabOkR w := fun i hi =>
  h.cell (g := 2) (by kernel_rfl) i hi
theorem firstOk_of {w : World} (h : TabIs Tryd.prog w "annals/annalsref2.first" .u32 shaInit) : FirstOk w := fun i hi =>
  h.cell (g := 0) (by kernel_rfl) i hi
/-- The four tables of SHA on both sides. -/
theorem sha_laid {laid : List (String × DataW Unit)} {w : World} (hh : (laid.filter fun x => x.2.handleName?.isSome) = []) (hL : laidMetH Tryd.prog laid w)
    (m1 : ("annals/sha.begin", (tabData .u32 shaInit : DataW Unit)) ∈ laid) (m2 : ("annals/sha.table", (tabData .u32 shaK : DataW Unit)) ∈ laid)
    (m3 : ("annals/annalsref2.first", (tabData .u32 shaInit : DataW Unit)) ∈ laid) (m4 : ("annals/annalsref2.table", (tabData .u32 shaK : DataW Unit)) ∈ laid) :
    TabOk w ∧ BeginOk w ∧ TabOkR w ∧ FirstOk w := by
  have h := laidMet_plain hh hL
  refine ⟨tabOk_of (tab_of_met (g := 3) (n := 64) (t := 64) (e := 50) (by kernel_rfl) (by kernel_rfl) Tryd.underlying64 Tryd.underlying50 (by kernel_rfl) (by kernel_rfl) h m2),
    beginOk_of (tab_of_met (g := 1) (n := 8) (t := 55) (e := 50) (by kernel_rfl) (by kernel_rfl) (by kernel_rfl) Tryd.underlying50 (by kernel_rfl) (by kernel_rfl) h m1),
    tabOkR_of (tab_of_met (g := 2) (n := 64) (t := 64) (e := 50) (by kernel_rfl) (by kernel_rfl) Tryd.underlying64 Tryd.underlying50 (by kernel_rfl) (by kernel_rfl) h m4),
    firstOk_of (tab_of_met (g := 0) (n := 8) (t := 51) (e := 50) (by kernel_rfl) (by kernel_rfl) Tryd.underlying51 Tryd.underlying50 (by kernel_rfl) (by kernel_rfl) h m3)⟩
end Go.Proofs.YtmkecanibedahaaDoor
