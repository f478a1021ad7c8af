/-
  CONTRACTS: note.ID and the document's ID.
-/
import Derived.Test.YtfhaoamlagnpjaaDoorRows
import Derived.Test.YtfhaoamlagnpjaaDoorWd
import Derived.Test.YtfhaoamlagnpjaaDoorName
import Derived.Test.YtfhaoamlagnpjaaDoorNoteIDno
import Derived.Test.YtfhaoamlagnpjaaDoorNoteID
import Derived.StillTailTactics
set_option linter.unusedVariables false
set_option linter.unusedSimpArgs false
namespace Go.Proofs.YtfhaoamlagnpjaaDoor
open Go.RowKit Go.Lib
/-- What both sides answer for a key: its four bytes, or the refusal. -/
def idV (n s : ByteArray) : Value := if nameOk n = true then .tuple #[.string ⟨(keyIDL n.data.toList s.data.toList).toArray⟩, .int .i64 0] else .tuple #[.string ⟨#[]⟩, .int .i64 203]
set_option maxRecDepth 100000 in
set_option maxHeartbeats 400000 in
theorem noteID_any (n s : ByteArray) (w : World) (hn : n.size ≤ 281474976710656) (hs : s.size ≤ 562949953421312) (htab : TabOk w) (hbg : BeginOk w) :
    Calls Tryd.prog 14 #[.agg #[.string n, .string s]] w fun e w' => e = .returned (idV n s) ∧ Below w.heap.size w w' := by
  by_cases hno : nameOk n = true
  · have Hid1 : Hid (idV n s = .tuple #[.string ⟨(keyIDL n.data.toList s.data.toList).toArray⟩, .int .i64 0]) := by unfold idV; rw [if_pos hno]; rfl
    have Hno := hide hno; clear hno
    have hk := fun (o : Obj) => keyID_any n s (w.alloc o) hn hs (TabOk.below (B := w.heap.size) htab ((Below.refl _ _).alloc (Nat.le_refl _) o) htab.lt) (hbg.below (B := w.heap.size) ((Below.refl _ _).alloc (Nat.le_refl _) o) hbg.lt)
    have Hk := hide hk
    clear hk htab hbg
    go_enter Tryd.func14, Tryd.ntmps14
    go_wp2_with fail
    refine (name_any _ _ (by simp only [maxLen]; omega)).mono ?_
    rintro e w1 ⟨rfl, rfl⟩
    rw [unhide Hno]
    go_wp2_with fail
    refine (unhide Hk _).mono ?_
    rintro e w1 ⟨rfl, hb1⟩
    go_wp2_with fail
    go_ret2
    exact ⟨by rw [Hid1.out]; rfl, ((Below.refl _ _).alloc (Nat.le_refl _) _).trans (hb1.mono (by simp))⟩
  · have hno' : nameOk n = false := by simpa using hno
    refine (noteID_no n s w (by simp only [maxLen]; omega) hno').mono ?_
    rintro e w' ⟨rfl, hb⟩
    exact ⟨by simp [idV, hno'], hb⟩
set_option maxRecDepth 100000 in
set_option maxHeartbeats 400000 in
theorem rID_any (n s : ByteArray) (w : World) (hn : n.size ≤ 17592186044416) (hs : s.size ≤ 35184372088832) (htab : TabOkR w) (hf : FirstOk w) :
    Calls Tryd.prog 15 #[.agg #[.string n, .string s]] w fun e w' => e = .returned (idV n s) ∧ Below w.heap.size w w' := by
  by_cases hno : nameOk n = true
  · have Hid1 : Hid (idV n s = .tuple #[.string ⟨(keyIDL n.data.toList s.data.toList).toArray⟩, .int .i64 0]) := by unfold idV; rw [if_pos hno]; rfl
    have Hno := hide hno; clear hno
    have hk := fun (o : Obj) => rkeyID_any n s (w.alloc o) hn hs (TabOkR.below (B := w.heap.size) htab ((Below.refl _ _).alloc (Nat.le_refl _) o) htab.lt) (FirstOk.below (B := w.heap.size) hf ((Below.refl _ _).alloc (Nat.le_refl _) o) hf.lt)
    have Hk := hide hk
    clear hk htab hf
    go_enter Tryd.func15, Tryd.ntmps15
    go_wp2_with fail
    refine (rname_any _ _ (by simp only [maxLen]; omega)).mono ?_
    rintro e w1 ⟨rfl, rfl⟩
    rw [unhide Hno]
    go_wp2_with fail
    refine (unhide Hk _).mono ?_
    rintro e w1 ⟨rfl, hb1⟩
    go_wp2_with fail
    go_ret2
    exact ⟨by rw [Hid1.out]; rfl, ((Below.refl _ _).alloc (Nat.le_refl _) _).trans (hb1.mono (by simp))⟩
  · have hno' : nameOk n = false := by simpa using hno
    have Hid1 : Hid (idV n s = .tuple #[.string ⟨#[]⟩, .int .i64 203]) := by unfold idV; rw [if_neg hno]; rfl
    have Hno := hide hno'; clear hno hno' htab hf
    go_enter Tryd.func15, Tryd.ntmps15
    go_wp2_with fail
    refine (rname_any _ _ (by simp only [maxLen]; omega)).mono ?_
    rintro e w1 ⟨rfl, rfl⟩
    rw [unhide Hno]
    go_wp2_with fail
    go_ret2
    exact ⟨by rw [Hid1.out]; rfl, (Below.refl _ _).alloc (Nat.le_refl _) _⟩
end Go.Proofs.YtfhaoamlagnpjaaDoor
