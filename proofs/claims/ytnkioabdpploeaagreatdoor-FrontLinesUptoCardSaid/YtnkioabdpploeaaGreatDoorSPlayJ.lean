/-
  PLAIN LAW: what strings.Join makes of a step's words is the step's line.
-/
import Derived.Test.YtnkioabdpploeaaGreatDoorRows
import Derived.Lib.Join
import Derived.Test.YtnkioabdpploeaaGreatDoorGBase
import Derived.Test.YtnkioabdpploeaaGreatDoorSREsc
import Derived.Test.YtnkioabdpploeaaGreatDoorSShelf
import Derived.Test.YtnkioabdpploeaaGreatDoorGLns
set_option linter.unusedVariables false
set_option linter.unusedSimpArgs false
namespace Go.Proofs.YtnkioabdpploeaaGreatDoor
open Go.RowKit Go.Lib
theorem spaced_tail : ∀ r : List ByteArray, Lib.joinTail [32] (r.map (·.data.toList)) = spaced r
  | [] => rfl
  | x :: r => by
    have ih := spaced_tail r
    unfold Lib.joinTail spaced at *
    rw [List.map_cons, List.map_cons, List.flatten_cons, List.flatMap_cons, ih]
    rfl
theorem join_spaced : ∀ (l : List ByteArray), Lib.join (l.map (·.data.toList)) [32] = joinSp l
  | [] => rfl
  | x :: r => by rw [List.map_cons, Lib.join_cons, joinSp_cons, spaced_tail]
/-- strings.Join(l, " ") of an own row. -/
theorem join_any {w : World} {base : Nat} {v : Value} {l : List ByteArray} (h : OwnT w base v l) (hne : l ≠ []) (hl : l.length ≤ 140737488355328) (hz : (joinSp l).length ≤ 140737488355328) :
    Calls Tryz.prog 42 #[v, .string ⟨#[32]⟩] w fun e w' => e = .returned (.string ⟨(joinSp l).toArray⟩) ∧ Below w.heap.size w w' := by
  rcases h.form with ⟨_, he⟩ | ⟨g, cap, rfl, hb, hg, hcap⟩
  · exact absurd he hne
  · have hj := join_spaced l
    refine (Tryz.strings_Join g 0 cap l ⟨#[32]⟩ w (fun j x hx => ?_) hg hl hcap (by show (Lib.join (l.map (·.data.toList)) [32]).length ≤ _; rw [hj]; exact hz)).mono ?_
    · obtain ⟨hlt, rfl⟩ := List.getElem?_eq_some_iff.1 hx
      rw [Nat.zero_add]
      exact h.cell j hlt
    · rintro e w' ⟨rfl, hb'⟩
      refine ⟨?_, hb'⟩
      show Ending.returned (.string ⟨(Lib.join (l.map (·.data.toList)) [32]).toArray⟩) = _
      rw [hj]
end Go.Proofs.YtnkioabdpploeaaGreatDoor
