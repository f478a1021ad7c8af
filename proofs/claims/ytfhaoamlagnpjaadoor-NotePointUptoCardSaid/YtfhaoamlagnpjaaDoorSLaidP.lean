/-
  WHAT THE PROGRAM's OWN TABLES HOLD, from the row's condition on them (for the laws that do not reach the reference).
-/

import Derived.Test.YtfhaoamlagnpjaaDoorGLay
import Derived.Test.YtfhaoamlagnpjaaDoorSSignature
set_option linter.unusedVariables false
namespace Go.Proofs.YtfhaoamlagnpjaaDoor
open Go.Lib
theorem sha_laidP {laid : List (String × DataW Unit)} {w : World} (hh : (laid.filter fun x => x.2.handleName?.isSome) = []) (hL : laidMetH Tryd.prog laid w)
    (m1 : ("annals/sha.begin", (tabData .u32 shaInit : DataW Unit)) ∈ laid) (m2 : ("annals/sha.table", (tabData .u32 shaK : DataW Unit)) ∈ laid) : PTab w := by
  have h := laidMet_plain hh hL
  exact ⟨tabOk_of (tab_of_met (g := 5) (n := 64) (t := 157) (e := 142) (by kernel_rfl) (by kernel_rfl) Tryd.underlying157 Tryd.underlying142 (by kernel_rfl) (by kernel_rfl) h m2),
    beginOk_of (tab_of_met (g := 1) (n := 8) (t := 152) (e := 142) (by kernel_rfl) (by kernel_rfl) (by kernel_rfl) Tryd.underlying142 (by kernel_rfl) (by kernel_rfl) h m1)⟩
end Go.Proofs.YtfhaoamlagnpjaaDoor
