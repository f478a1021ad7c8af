/-
  CONTRACTS of the law's ints, words, others, back, kept.
-/
import Derived.Test.YtnkioabdpploeaaGreatDoorRows
import Derived.Test.YtnkioabdpploeaaGreatDoorGBase
import Derived.Test.YtnkioabdpploeaaGreatDoorSSameT
import Derived.Test.YtnkioabdpploeaaGreatDoorGApt
set_option linter.unusedVariables false
set_option linter.unusedSimpArgs false
namespace Go.Proofs.YtnkioabdpploeaaGreatDoor
open Go.RowKit Go.Lib
/-- Two blocks alone were written. -/
structure But2 (g h : Nat) (w w' : World) : Prop where
  os : w'.os = w.os
  tape : w'.tape = w.tape
  output : w'.output = w.output
  size : w'.heap.size = w.heap.size
  block : ∀ k, k ≠ g → k ≠ h → w'.heap[k]? = w.heap[k]?
theorem But2.refl (g h : Nat) (w : World) : But2 g h w w := ⟨rfl, rfl, rfl, rfl, fun _ _ _ => rfl⟩
theorem But2.set {g h : Nat} {a w : World} (hb : But2 g h a w) {p : Addr} (hp : p.block = g ∨ p.block = h) (u : Value) : But2 g h a (w.setCell p u) :=
  ⟨hb.os, hb.tape, hb.output, by rw [← hb.size]; simp [World.setCell], fun k h1 h2 => by
    rw [Below.heap_setCell _ _ _ _ (fun e => by rcases hp with hp | hp <;> omega)]; exact hb.block k h1 h2⟩
theorem But2.below {g h B : Nat} {a w : World} (hb : But2 g h a w) (hg : B ≤ g) (hh : B ≤ h) : Below B a w := ⟨hb.os, hb.tape, hb.output, Nat.le_of_eq hb.size.symm, fun k hk => hb.block k (by omega) (by omega)⟩
theorem But2.blk {g h k : Nat} {a w : World} {T : TypeId} {cs : Array Value} (hb : But2 g h a w) (hB : Blk a k T cs) (h1 : k ≠ g) (h2 : k ≠ h) : Blk w k T cs := (hb.block k h1 h2).trans hB
theorem MkI.blk_ne {W : World} {g c k : Nat} {l : List Int} {T : TypeId} {cs : Array Value} (hN : MkI W g c l) (hB : Blk W k T cs) (hT : 3 ≠ T) : k ≠ g := fun e => own_blk_ne hN hB hT (by rw [e]; rfl)
theorem MkT.blk_ne {W : World} {g c k : Nat} {l : List ByteArray} {T : TypeId} {cs : Array Value} (hN : MkT W g c l) (hB : Blk W k T cs) (hT : 9 ≠ T) : k ≠ g := fun e => own_blk_ne hN hB hT (by rw [e]; rfl)
theorem MkI.set {W : World} {g cap : Nat} {l : List Int} (h : MkI W g cap l) (j : Nat) (hj : j < l.length) (z : Int) : MkI (W.setCell ⟨g, j, none⟩ (.int .i64 z)) g cap (l.set j z) := by
  have h1 := row_set h j (by omega) (.int .i64 z)
  unfold MkI
  rw [List.length_set, show (l.set j z ++ [-7]) = (l ++ [-7]).set j z by rw [List.set_append_left _ _ hj], List.map_set]
  exact h1
theorem MkT.set {W : World} {g cap : Nat} {l : List ByteArray} (h : MkT W g cap l) (j : Nat) (hj : j < l.length) (z : ByteArray) : MkT (W.setCell ⟨g, j, none⟩ (.string z)) g cap (l.set j z) := by
  have h1 := row_set h j (by omega) (.string z)
  unfold MkT
  rw [List.length_set, show (l.set j z ++ [markS]) = (l ++ [markS]).set j z by rw [List.set_append_left _ _ hj], List.map_set]
  exact h1
theorem MkI.far {W : World} {g cap k j : Nat} {l : List Int} (h : MkI W g cap l) (hk : g ≠ k) (u : Value) : MkI (W.setCell ⟨k, j, none⟩ u) g cap l := row_store_ne h (fun e => hk (by simpa [Value.ownBlock] using e)) u
theorem MkT.far {W : World} {g cap k j : Nat} {l : List ByteArray} (h : MkT W g cap l) (hk : g ≠ k) (u : Value) : MkT (W.setCell ⟨k, j, none⟩ u) g cap l := row_store_ne h (fun e => hk (by simpa [Value.ownBlock] using e)) u
theorem MkI.low {W W' : World} {g cap : Nat} {l : List Int} (h : MkI W g cap l) (hb : Below W.heap.size W W') : MkI W' g cap l := row_low h (fun k hk => (World.ownsRow.lt h k hk).2) hb
theorem MkT.low {W W' : World} {g cap : Nat} {l : List ByteArray} (h : MkT W g cap l) (hb : Below W.heap.size W W') : MkT W' g cap l := row_low h (fun k hk => (World.ownsRow.lt h k hk).2) hb
theorem MkI.cell {W : World} {g cap : Nat} {l : List Int} (h : MkI W g cap l) (j : Nat) (hj : j < l.length) : W.cell? ⟨g, j, none⟩ = some (.int .i64 l[j]) := by
  rw [World.ownsRow.cellAt h j (by omega), List.getElem?_map, List.getElem?_append_left hj, List.getElem?_eq_getElem hj]; rfl
theorem MkT.cell {W : World} {g cap : Nat} {l : List ByteArray} (h : MkT W g cap l) (j : Nat) (hj : j < l.length) : W.cell? ⟨g, j, none⟩ = some (.string l[j]) := by
  rw [World.ownsRow.cellAt h j (by omega), List.getElem?_map, List.getElem?_append_left hj, List.getElem?_eq_getElem hj]; rfl
end Go.Proofs.YtnkioabdpploeaaGreatDoor
