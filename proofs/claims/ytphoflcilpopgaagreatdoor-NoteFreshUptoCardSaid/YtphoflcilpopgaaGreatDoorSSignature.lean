/-
  CONTRACTS of package note and of the document's answer for it: the signature of a key for a text.
-/
import Derived.Test.YtphoflcilpopgaaGreatDoorRows
import Derived.Laws.Rows
import Derived.Deep.RegionHeld3
import Derived.Test.YtphoflcilpopgaaGreatDoorGBase
import Derived.Test.YtphoflcilpopgaaGreatDoorGMacs
import Derived.Test.YtphoflcilpopgaaGreatDoorGSigs
set_option linter.unusedVariables false
set_option linter.unusedSimpArgs false
namespace Go.Proofs.YtphoflcilpopgaaGreatDoor
open Go.RowKit Go.Lib
/-- The signature of a key for a text. -/
def sigOf (n s t : ByteArray) : SigR := ⟨n, ⟨(keyIDL n.data.toList s.data.toList).toArray⟩, ⟨(macL s.data.toList t.data.toList).toArray⟩⟩
theorem sigOf_id (n s t : ByteArray) : (sigOf n s t).id.size = 4 := by
  show (keyIDL n.data.toList s.data.toList).toArray.size = 4
  rw [List.size_toArray, keyIDL_length]
theorem sigOf_mc (n s t : ByteArray) : (sigOf n s t).mc.size = 32 := by
  show (macL s.data.toList t.data.toList).toArray.size = 32
  rw [List.size_toArray, macL_length]
/-- The tables that the program's sum reads, and the document's. -/
def PTab (w : World) : Prop := TabOk w ∧ BeginOk w
def RTab (w : World) : Prop := TabOkR w ∧ FirstOk w
theorem PTab.next {w w' : World} (h : PTab w) (hb : Below w.heap.size w w') : PTab w' := ⟨h.1.below hb h.1.lt, h.2.below hb (World.block_lt_of_cell? w _ (h.2 0 (by omega)))⟩
theorem RTab.next {w w' : World} (h : RTab w) (hb : Below w.heap.size w w') : RTab w' := ⟨h.1.below hb (World.block_lt_of_cell? w _ (h.1 0 (by omega))), h.2.below hb (World.block_lt_of_cell? w _ (h.2 0 (by omega)))⟩
theorem PTab.alloc {w : World} (h : PTab w) (o : Obj) : PTab (w.alloc o) := h.next ((Below.refl _ _).alloc (Nat.le_refl _) o)
theorem RTab.alloc {w : World} (h : RTab w) (o : Obj) : RTab (w.alloc o) := h.next ((Below.refl _ _).alloc (Nat.le_refl _) o)
theorem PTab.drew {w : World} (h : PTab w) : PTab w.drew := h
theorem RTab.drew {w : World} (h : RTab w) : RTab w.drew := h
theorem blk3_store {w : World} {g : Nat} {t : TypeId} {a b c : Value} (h : Blk w g t #[a, b, c]) (a' b' c' : Value) : Blk (((w.setCell ⟨g, 0, none⟩ a').setCell ⟨g, 1, none⟩ b').setCell ⟨g, 2, none⟩ c') g t #[a', b', c'] := by
  have h2 := ((h.set_ 0 a').set_ 1 b').set_ 2 c'
  simpa using h2
theorem below3_store {B : Nat} {a w : World} {g : Nat} (h : Below B a w) (hg : B ≤ g) (a' b' c' : Value) : Below B a (((w.setCell ⟨g, 0, none⟩ a').setCell ⟨g, 1, none⟩ b').setCell ⟨g, 2, none⟩ c') :=
  ((h.setCell (p := ⟨g, 0, none⟩) hg a').setCell (p := ⟨g, 1, none⟩) hg b').setCell (p := ⟨g, 2, none⟩) hg c'
end Go.Proofs.YtphoflcilpopgaaGreatDoor
