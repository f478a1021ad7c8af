/-
  CONTRACT of the document's StepOf.
-/
import Derived.Test.YtnkioabdpploeaaGreatDoorRows
import Derived.Deep.RegionHeld3
import Derived.Deep.DeepCutAuto
import Derived.Deep.CutBlock
import Derived.Deep.CutRange
import Derived.StillTailTactics
import Derived.Test.YtnkioabdpploeaaGreatDoorGBase
import Derived.Test.YtnkioabdpploeaaGreatDoorGLns
import Derived.Test.YtnkioabdpploeaaGreatDoorSRRow
import Derived.Test.YtnkioabdpploeaaGreatDoorSTwinI
import Derived.Test.YtnkioabdpploeaaGreatDoorSStepP
import Derived.Test.YtnkioabdpploeaaGreatDoorSRStepA
set_option linter.unusedVariables false
set_option linter.unusedSimpArgs false
namespace Go.Proofs.YtnkioabdpploeaaGreatDoor
open Go.RowKit Go.Lib
theorem ints_at {w : World} {A : Option Addr} {m c : Nat} {es : List Int} (h : IntsAt w (.slice A m c) es) (j : Nat) (hj : j < es.length) : ∃ a, A = some a ∧ w.cell? (a.add j) = some (.int .i64 es[j]) := by
  obtain ⟨A', c', hv, hc⟩ := h
  injection hv with e1 e2 e3
  subst e1
  exact hc j hj
theorem step_appT {ops : Array Oper} {o : Oper} {a : Act} {K : Act → World → Prop} {Q : Exit → Act → World → Prop} {E : Prop} (w : World) (hgd : o.guard = none) (s x : Operand)
    (ho : o.op = .call { callee := .builtin .append, args := #[s, x], argTypes := #[23, 23] })
    {base : Nat} {v : Value} {es : List ByteArray} (hown : OwnT w base v es) (hs : a.eval s = v) {A : Option Addr} {m c : Nat} {es2 : List ByteArray} (hr : StrsAt w (.slice A m c) es2) (hx : a.eval x = .slice A m c)
    (h47 : es.length + es2.length ≤ 4398046511104) (hbase : base ≤ w.heap.size)
    (h : ∀ v' w', OwnT w' base v' (es ++ es2) → w.grownBy w' v.ownBlock → (v'.ownBlock = v.ownBlock ∨ v'.ownBlock = some w.heap.size) → K (a.put o.dst v') w') :
    if Region.wanted o (yielded ops a.tmps) = true then Oper.wp Tryz.prog o a w K Q else E := by
  obtain ⟨i, hi, hz, hs1, hb1⟩ := info_parts strInfo
  obtain ⟨hm, hrd⟩ := hr.reads
  refine step_append_any (w := w) hgd s x 23 ho base 9 i (.string ⟨#[]⟩) 1 16 Tryz.underlying23 hi hz hs1 hb1 rfl (by decide) v es.length (es.map Value.string) hs hown w.heap.size A m c (es2.map Value.string) hx hrd ?_ ?_ ?_ hbase ?_
  · intro u hu
    obtain ⟨y, _, rfl⟩ := List.mem_map.1 hu
    rfl
  · simp only [maxLen]; omega
  · omega
  · intro v' w' h1 h2 h3
    refine h v' w' ?_ h2 h3
    unfold OwnT
    rw [List.map_append, List.length_append, ← hm]
    exact h1
end Go.Proofs.YtnkioabdpploeaaGreatDoor
