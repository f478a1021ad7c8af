/-
  AN ARGUMENT of type api.Checkpoint, opened; the utf8 tables out of the row's condition.
-/
import Derived.Test.YtfhaoamlagnpjaaDoorRows
import Derived.Test.YtfhaoamlagnpjaaDoorWd
import Derived.Test.YtfhaoamlagnpjaaDoorShelf
import Derived.Test.YtfhaoamlagnpjaaDoorStrRow
import Derived.Test.YtfhaoamlagnpjaaDoorText
import Derived.Lib.SmallJoins
import Derived.Lib.LaidU8T
import Derived.Deep.Strs
set_option linter.unusedVariables false
namespace Go.Proofs.YtfhaoamlagnpjaaDoor
open Go.RowKit Go.Lib Go.Joins
theorem bulk_strs {H : Type} (S : Nat → ByteArray) (l : List Nat) : Rows.uptoBulkAll (l.map fun i => (DataW.lit (.string (S i).data.toList) : DataW H)) = (linesL (l.map S)).length := by
  induction l with
  | nil => rfl
  | cons i r ih =>
    simp only [List.map_cons, Rows.uptoBulkAll, Rows.uptoBulk, ih]
    simp [linesL]
    omega
set_option maxRecDepth 100000 in
theorem open_cp {H : Type} {enc : TypeId × Value → H} {w : World} {base : Nat} {sp : Nat → Bool} {held : Bool} {r : Reach} {b0 : Nat} {v : Value} {d : DataW H} {p : List MemPlace}
    (hv : Value.okWide Tryd.prog w r b0 34 v) (h : DataW.Trod enc Tryd.prog w base sp held 34 v d p) :
    ∃ (o : ByteArray) (n : Int) (rt : ByteArray) (x : Value) (es : List ByteArray), v = .agg #[.string o, .int .i64 n, .string rt, x] ∧ StrsAt w x es ∧ o.size + rt.size + (linesL es).length ≤ Rows.uptoBulk d := by
  obtain ⟨v0, v1, v2, v3, y0, y1, y2, y3, k, rfl, rfl, rfl, h0, h1, h2, h3⟩ := open_agg4 Tryd.underlying34 (by kernel_rfl) (by kernel_rfl) hv h
  obtain ⟨s0, e0, rfl, -⟩ := DataW.trod_string (ht := Tryd.underlying9) h0
  obtain ⟨s2, e2, rfl, -⟩ := DataW.trod_string (ht := Tryd.underlying9) h2
  obtain ⟨z, e1, rfl, -⟩ := DataW.trod_int Tryd.underlying3 h1
  simp at e0 e1 e2
  subst e0 e1 e2
  rcases Go.Deep.open_strs Tryd.underlying32 Tryd.underlying9 (by kernel_rfl) h3 with ⟨e3, rfl⟩ | ⟨a, len, cap, m, S, e3, _, hlc, _, hm, rfl, hc⟩
  · simp at e3
    subst e3
    refine ⟨s0, z, s2, _, [], rfl, ⟨none, 0, rfl, fun j hj => by simp at hj⟩, ?_⟩
    have z0 : s0.data.size = s0.size := rfl
    have z2 : s2.data.size = s2.size := rfl
    simp [Rows.uptoBulk, Rows.uptoBulkAll, linesL]
    omega
  · simp at e3
    subst e3
    have hlm : len ≤ m := by rw [hm]; split <;> omega
    refine ⟨s0, z, s2, _, (List.range len).map S, rfl, ⟨some a, cap, by simp, fun j hj => ⟨a, rfl, ?_⟩⟩, ?_⟩
    · simp at hj
      rw [(hc j (by omega)).1]
      simp
    · have z0 : s0.data.size = s0.size := rfl
      have z2 : s2.data.size = s2.size := rfl
      simp only [Rows.uptoBulk, Rows.uptoBulkAll, bulk_strs, Array.length_toList]
      omega
theorem utf8_extra : Go.Proofs.U8Extra Tryd.prog Tryd.lays260_ren := {
  n3 := by kernel_rfl
  n4 := by kernel_rfl
  y3 := by kernel_rfl
  y4 := by kernel_rfl
  c5 := by kernel_rfl
  c119 := by kernel_rfl
  c138 := by kernel_rfl }
theorem utf8_of {laid : List (String × DataW Unit)} {w : World} (h : laidMet Tryd.prog laid w) (m1 : ("unicode/utf8.first", Go.Lib.firstData) ∈ laid) (m2 : ("unicode/utf8.acceptRanges", Go.Lib.acceptData) ∈ laid) :
    Lib.Utf8Tabs 3 4 w := by
  obtain ⟨ps, h, _⟩ := h
  exact Go.Proofs.utf8Tabs_of_readsT (Go.Proofs.U8Types.of260 Tryd.lays260) utf8_extra (LaidVars_reads h _ _ m1) (LaidVars_reads h _ _ m2)
end Go.Proofs.YtfhaoamlagnpjaaDoor
