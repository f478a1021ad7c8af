/-
  Several texts in one: FROM THE ROW's CONDITION ON THE LAID TABLES: what is of no program. | FROM THE ROW's CONDITION ON THE LAID TABLES to what the walks read.
-/
import Derived.Test.YtphoflcilpopgaaGreatDoorRows
import Derived.Lib.LaidTab
import Derived.Test.YtphoflcilpopgaaGreatDoorGBase
import Derived.Test.YtphoflcilpopgaaGreatDoorGShF
import Derived.Test.YtphoflcilpopgaaGreatDoorGShA
set_option linter.unusedVariables false
set_option linter.unusedSimpArgs false
namespace Go.Proofs.YtphoflcilpopgaaGreatDoor
open Go.Lib
theorem laidMet_plain {P : Program} {laid : List (String × DataW Unit)} {w : World} (hh : (laid.filter fun x => x.2.handleName?.isSome) = []) (h : laidMetH P laid w) : laidMet P laid w := by
  unfold laidMetH at h
  rw [hh] at h
  exact h
theorem tab_of_vars {P : Program} {w : World} {name : String} {k : IntKind} {zs : List Int} {g : Nat} {t e : TypeId} {n : Nat}
    (hg : P.globalNamed name = some g) (hty : (P.globals[g]?).map (·.type) = some t) (ht : P.underlying t = some (.array n e)) (he : P.underlying e = some (.int k)) (hce : P.cellsOf e = 1) (hct : P.cellsOf t = n) :
    ∀ (laid : List (String × DataW Unit)) (ps : List MemPlace), DataW.LaidVars P w laid ps → (name, (tabData k zs : DataW Unit)) ∈ laid → TabIs P w name k zs
  | [], _, _, hm => by simp at hm
  | (n', d') :: r, ps, h, hm => by
    obtain ⟨g', t', cs, fuel, p, q, hg', ht', hvar, hd, hr, _⟩ := h
    rcases List.mem_cons.1 hm with h1 | h1
    · obtain ⟨rfl, rfl⟩ := Prod.mk.inj h1
      obtain rfl := Option.some.inj (hg.symm.trans hg')
      obtain rfl := Option.some.inj (hty.symm.trans ht')
      unfold TabIs
      rw [hvar, ← cells_of_tab ht he hce hct hd]
    · exact tab_of_vars hg hty ht he hce hct r q hr h1
theorem tab_of_met {P : Program} {w : World} {name : String} {k : IntKind} {zs : List Int} {g : Nat} {t e : TypeId} {n : Nat} {laid : List (String × DataW Unit)}
    (hg : P.globalNamed name = some g) (hty : (P.globals[g]?).map (·.type) = some t) (ht : P.underlying t = some (.array n e)) (he : P.underlying e = some (.int k)) (hce : P.cellsOf e = 1) (hct : P.cellsOf t = n)
    (h : laidMet P laid w) (hm : (name, (tabData k zs : DataW Unit)) ∈ laid) : TabIs P w name k zs := by
  obtain ⟨ps, h, _⟩ := h
  exact tab_of_vars hg hty ht he hce hct laid ps h hm
end Go.Proofs.YtphoflcilpopgaaGreatDoor

set_option linter.unusedVariables false
set_option linter.unusedSimpArgs false
namespace Go.Proofs.YtphoflcilpopgaaGreatDoor
open Go.RowKit Go.Lib
theorem tabOk_of {w : World} (h : TabIs Tryz.prog w "annals/sha.table" .u32 shaK) : TabOk w := fun i hi =>
  h.cell (g := 4) (by kernel_rfl) i hi
theorem beginOk_of {w : World} (h : TabIs Tryz.prog w "annals/sha.begin" .u32 shaInit) : BeginOk w := fun i hi =>
  h.cell (g := 2) (by kernel_rfl) i hi
theorem tabOkR_of {w : World} (h : TabIs Tryz.prog w "annals/annalsref2.table" .u32 shaK) : TabOkR w := fun i hi =>
  h.cell (g := 1) (by kernel_rfl) i hi
theorem firstOk_of {w : World} (h : TabIs Tryz.prog w "annals/annalsref2.first" .u32 shaInit) : FirstOk w := fun i hi =>
  h.cell (g := 0) (by kernel_rfl) i hi
/-- The four tables of SHA on both sides. -/
theorem sha_laid {laid : List (String × DataW Unit)} {w : World} (hh : (laid.filter fun x => x.2.handleName?.isSome) = []) (hL : laidMetH Tryz.prog laid w)
    (m1 : ("annals/sha.begin", (tabData .u32 shaInit : DataW Unit)) ∈ laid) (m2 : ("annals/sha.table", (tabData .u32 shaK : DataW Unit)) ∈ laid)
    (m3 : ("annals/annalsref2.first", (tabData .u32 shaInit : DataW Unit)) ∈ laid) (m4 : ("annals/annalsref2.table", (tabData .u32 shaK : DataW Unit)) ∈ laid) :
    TabOk w ∧ BeginOk w ∧ TabOkR w ∧ FirstOk w := by
  have h := laidMet_plain hh hL
  refine ⟨tabOk_of (tab_of_met (g := 4) (n := 64) (t := 128) (e := 107) (by kernel_rfl) (by kernel_rfl) Tryz.underlying128 Tryz.underlying107 (by kernel_rfl) (by kernel_rfl) h m2),
    beginOk_of (tab_of_met (g := 2) (n := 8) (t := 132) (e := 107) (by kernel_rfl) (by kernel_rfl) (by kernel_rfl) Tryz.underlying107 (by kernel_rfl) (by kernel_rfl) h m1),
    tabOkR_of (tab_of_met (g := 1) (n := 64) (t := 128) (e := 107) (by kernel_rfl) (by kernel_rfl) Tryz.underlying128 Tryz.underlying107 (by kernel_rfl) (by kernel_rfl) h m4),
    firstOk_of (tab_of_met (g := 0) (n := 8) (t := 108) (e := 107) (by kernel_rfl) (by kernel_rfl) Tryz.underlying108 Tryz.underlying107 (by kernel_rfl) (by kernel_rfl) h m3)⟩
end Go.Proofs.YtphoflcilpopgaaGreatDoor
