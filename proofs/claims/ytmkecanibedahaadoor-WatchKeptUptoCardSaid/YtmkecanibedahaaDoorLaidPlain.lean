/-
  FROM THE ROW's CONDITION ON THE LAID TABLES: what is of no program.
-/
import Derived.Test.YtmkecanibedahaaDoorRows
import Derived.Lib.LaidTab
set_option linter.unusedVariables false
set_option linter.unusedSimpArgs false
namespace Go.Proofs.YtmkecanibedahaaDoor
open Go.Lib
theorem laidMet_plain {P : Program} {laid : List (String × DataW Unit)} {w : World} (hh : (laid.filter fun x => x.2.handleName?.isSome) = []) (h : laidMetH P laid w) : laidMet P laid w := by
  unfold laidMetH at h
  rw [hh] at h
  exact h
theorem tab_of_vars {P : Program} {w : World} {name : String} {k : IntKind} {zs : List Int} {g : Nat} {t e : TypeId} {n : Nat}
    (hg : P.globalNamed name = some g) (hty : (P.globals[g]?).map (·.type) = some t) (ht : P.underlying t = some (.array n e)) (he : P.underlying e = some (.int k)) (hce : P.cellsOf e = 1) (hct : P.cellsOf t = n) :
    ∀ (laid : List (String × DataW Unit)) (ps : List MemPlace), DataW.LaidVars P w laid ps → (name, (tabData k zs : DataW Unit)) ∈ laid → TabIs P w name k zs
  | [], _, _, hm => by simp at hm
  | (n', d') :: r, ps, h, hm => by
    obtain ⟨g', t', cs, fuel, p, q, hg', ht', hvar, hd, hr, _⟩ := h
    rcases List.mem_cons.1 hm with h1 | h1
    · obtain ⟨rfl, rfl⟩ := Prod.mk.inj h1
      obtain rfl := Option.some.inj (hg.symm.trans hg')
      obtain rfl := Option.some.inj (hty.symm.trans ht')
      unfold TabIs
      rw [hvar, ← cells_of_tab ht he hce hct hd]
    · exact tab_of_vars hg hty ht he hce hct r q hr h1
theorem tab_of_met {P : Program} {w : World} {name : String} {k : IntKind} {zs : List Int} {g : Nat} {t e : TypeId} {n : Nat} {laid : List (String × DataW Unit)}
    (hg : P.globalNamed name = some g) (hty : (P.globals[g]?).map (·.type) = some t) (ht : P.underlying t = some (.array n e)) (he : P.underlying e = some (.int k)) (hce : P.cellsOf e = 1) (hct : P.cellsOf t = n)
    (h : laidMet P laid w) (hm : (name, (tabData k zs : DataW Unit)) ∈ laid) : TabIs P w name k zs := by
  obtain ⟨ps, h, _⟩ := h
  exact tab_of_vars hg hty ht he hce hct laid ps h hm
end Go.Proofs.YtmkecanibedahaaDoor
