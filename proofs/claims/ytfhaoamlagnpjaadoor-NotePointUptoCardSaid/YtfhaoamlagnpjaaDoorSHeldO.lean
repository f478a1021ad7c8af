/-
  WORDS on an opened note that lies in a block.
-/
import Derived.Test.YtfhaoamlagnpjaaDoorRows
import Derived.Test.YtfhaoamlagnpjaaDoorGBase
import Derived.Test.YtfhaoamlagnpjaaDoorGOp
import Derived.Test.YtfhaoamlagnpjaaDoorGKs
set_option linter.unusedVariables false
namespace Go.Proofs.YtfhaoamlagnpjaaDoor
open Go.RowKit Go.Lib
/-- An opened note, held in a block. -/
def HeldO (X : World) (m : Nat) (t : ByteArray) (g r : List SigR) (vg vr : Value) (b : Nat) : Prop := Blk X m 53 #[.string t, vg, vr] ∧ OwnG X b vg g ∧ OwnG X b vr r
theorem HeldO.next {X Y : World} {m b : Nat} {t : ByteArray} {g r : List SigR} {vg vr : Value} (h : HeldO X m t g r vg vr b) (hb : Below X.heap.size X Y) : HeldO Y m t g r vg vr b := ⟨h.1.below hb h.1.lt, h.2.1.below hb, h.2.2.below hb⟩
theorem HeldO.store {X : World} {m b b2 gk n cap : Nat} {t : ByteArray} {g r : List SigR} {vg vr : Value} {full : List KeyR} (h : HeldO X m t g r vg vr b) (hK : OwnK X b2 (.slice (some ⟨gk, 0, none⟩) n cap) full) (u : Value) : HeldO (X.setCell ⟨gk, 0, none⟩ u) m t g r vg vr b := by
  obtain ⟨cur, hcur⟩ : ∃ cur, Blk X gk 27 cur := by
    rcases hK.2 with ⟨hv, _⟩ | ⟨g', cap', cur, hv, _, hh, _⟩
    · cases hv
    · injection hv with e _ _
      injection e with e
      injection e with e
      subst e
      exact ⟨cur, hh⟩
  refine ⟨h.1.far (p := ⟨gk, 0, none⟩) (h.1.ne_ hcur (by decide)) u, h.2.1.far2 (p := ⟨gk, 0, none⟩) (own_blk_ne h.2.1 hcur (by decide)) u, h.2.2.far2 (p := ⟨gk, 0, none⟩) (own_blk_ne h.2.2 hcur (by decide)) u⟩
end Go.Proofs.YtfhaoamlagnpjaaDoor
