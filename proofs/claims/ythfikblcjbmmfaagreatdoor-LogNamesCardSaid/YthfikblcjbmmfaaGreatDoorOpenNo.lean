/-
  CONTRACTS of logd.Open and mirror.Open at a key whose name does not go.
-/
import Derived.Test.YthfikblcjbmmfaaGreatDoorRows
import Derived.Test.YthfikblcjbmmfaaGreatDoorWd
import Derived.Test.YthfikblcjbmmfaaGreatDoorName
set_option linter.unusedVariables false
set_option linter.unusedSimpArgs false
namespace Go.Proofs.YthfikblcjbmmfaaGreatDoor
open Go.RowKit
set_option maxHeartbeats 400000 in
theorem logdOpen_no (st : Value) (n s : ByteArray) (w : World) (hn : n.size ≤ maxLen) (hno : nameOk n = false) :
    Calls Tryz.prog 5 #[st, .agg #[.string n, .string s]] w fun e w' => e = .returned (.tuple #[.pointer none, .int .i64 203]) ∧ Below w.heap.size w w' := by
  have Hno := hide hno; clear hno
  go_enter Tryz.func5, Tryz.ntmps5
  go_wp2_with fail
  refine (name_any _ _ hn).mono ?_
  rintro e w1 ⟨rfl, rfl⟩
  rw [unhide Hno]
  go_wp2
  go_ret2
  exact ⟨rfl, (Below.refl _ _).alloc (Nat.le_refl _) _⟩
set_option maxHeartbeats 400000 in
theorem mirrorOpen_no (st o : Value) (a b c d e f : Value) (ho : o = .agg #[a, b, c, d, e, f]) (n s : ByteArray) (w : World) (hn : n.size ≤ maxLen) (hno : nameOk n = false) :
    Calls Tryz.prog 9 #[st, o, .agg #[.string n, .string s]] w fun e w' => e = .returned (.tuple #[.pointer none, .int .i64 203]) ∧ Below w.heap.size w w' := by
  subst ho
  have Hno := hide hno; clear hno
  go_enter Tryz.func9, Tryz.ntmps9
  go_wp2_with fail
  refine (name_any _ _ hn).mono ?_
  rintro e w1 ⟨rfl, rfl⟩
  rw [unhide Hno]
  go_wp2
  go_ret2
  exact ⟨rfl, ((Below.refl _ _).alloc (Nat.le_refl _) _).alloc (by simp) _⟩
end Go.Proofs.YthfikblcjbmmfaaGreatDoor
