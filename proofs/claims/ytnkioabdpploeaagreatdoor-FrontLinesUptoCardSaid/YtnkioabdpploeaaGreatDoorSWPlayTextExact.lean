/-
  THE WALK of the law PlayTextExact.
-/
import Derived.Test.YtnkioabdpploeaaGreatDoorRows
import Derived.Test.YtnkioabdpploeaaGreatDoorGBase
import Derived.Test.YtnkioabdpploeaaGreatDoorSRScript
import Derived.Test.YtnkioabdpploeaaGreatDoorSScript
import Derived.Test.YtnkioabdpploeaaGreatDoorSWords
import Derived.Test.YtnkioabdpploeaaGreatDoorSOpenSteps
set_option linter.unusedVariables false
set_option linter.unusedSimpArgs false
namespace Go.Proofs.YtnkioabdpploeaaGreatDoor
open Go.RowKit Go.Lib
theorem StepAt.below {w w' : World} {p : Addr} {s : StepR} (h : StepAt w p s) (hb : Below w.heap.size w w') : StepAt w' p s := by
  obtain ⟨vn, vs, a, b, c, d, e, f, ho, p0, p1, p2, p3, p4, p5, p6, p7, p8, hI, hS⟩ := h
  have hl := World.block_lt_of_cell? w _ p0
  have hc : ∀ i : Nat, w'.cell? ⟨p.block, p.off + i, none⟩ = w.cell? ⟨p.block, p.off + i, none⟩ := fun i => hb.cell (p := ⟨p.block, p.off + i, none⟩) hl
  exact ⟨vn, vs, a, b, c, d, e, f, ho, (hb.cell hl).trans p0, (hc 1).trans p1, (hc 2).trans p2, (hc 3).trans p3, (hc 4).trans p4, (hc 5).trans p5, (hc 6).trans p6, (hc 7).trans p7, (hc 8).trans p8, hI.below hb, hS.below hb⟩
theorem StepsAt.below {w w' : World} {v : Value} {l : List StepR} (h : StepsAt w v l) (hb : Below w.heap.size w w') : StepsAt w' v l := by
  obtain ⟨A, cap, rfl, he⟩ := h
  refine ⟨A, cap, rfl, fun j hj => ?_⟩
  obtain ⟨p, hp, hs⟩ := he j hj
  exact ⟨p, hp, hs.below hb⟩
theorem spaced_cons (x : ByteArray) (r : List ByteArray) : (spaced (x :: r)).length = x.size + 1 + (spaced r).length := by
  have h : spaced (x :: r) = (32 :: x.data.toList) ++ spaced r := by unfold spaced; rw [List.flatMap_cons]
  have h2 : x.data.toList.length = x.size := Array.length_toList
  rw [h, List.length_append, List.length_cons, h2]
theorem spaced_le (B : Nat) : ∀ l : List ByteArray, (∀ x ∈ l, x.size ≤ B) → (spaced l).length ≤ (B + 1) * l.length
  | [], _ => by simp [spaced]
  | x :: r, h => by
    have h1 := spaced_le B r (fun y hy => h y (List.mem_cons_of_mem _ hy))
    have h2 := h x (List.mem_cons_self ..)
    rw [spaced_cons, List.length_cons, Nat.mul_succ]
    omega
end Go.Proofs.YtnkioabdpploeaaGreatDoor
