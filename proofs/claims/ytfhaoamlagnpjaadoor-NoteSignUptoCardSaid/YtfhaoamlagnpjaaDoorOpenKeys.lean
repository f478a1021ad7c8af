/-
  An argument of type []api.Key, opened.
-/
import Derived.Test.YtfhaoamlagnpjaaDoorRows
import Derived.Test.YtfhaoamlagnpjaaDoorWd
import Derived.Test.YtfhaoamlagnpjaaDoorKeyRow
import Derived.Deep.SlicePairs
set_option linter.unusedVariables false
namespace Go.Proofs.YtfhaoamlagnpjaaDoor
open Go.RowKit Go.Lib Go.Joins
def keysW (ks : List KeyR) : Nat := (ks.map fun k => k.nm.size + k.sc.size + 2).sum
theorem keysW_mem {ks : List KeyR} {k : KeyR} (h : k ∈ ks) : k.nm.size + k.sc.size ≤ keysW ks := by
  induction ks with
  | nil => simp at h
  | cons x r ih =>
    unfold keysW at ih ⊢
    rw [List.map_cons, List.sum_cons]
    rcases List.mem_cons.1 h with rfl | h
    · omega
    · have := ih h; omega
theorem keysW_len (ks : List KeyR) : ks.length ≤ keysW ks := by
  induction ks with
  | nil => simp [keysW]
  | cons x r ih =>
    unfold keysW at ih ⊢
    rw [List.map_cons, List.sum_cons, List.length_cons]
    omega
theorem bulk_keys {H : Type} (S0 S1 : Nat → ByteArray) (l : List Nat) : keysW (l.map fun i => ⟨S0 i, S1 i⟩) ≤ Rows.uptoBulkAll (l.map fun i => (DataW.agg [.lit (.string (S0 i).data.toList), .lit (.string (S1 i).data.toList)] : DataW H)) := by
  induction l with
  | nil => simp [keysW, Rows.uptoBulkAll]
  | cons i r ih =>
    have h0 : (S0 i).data.size = (S0 i).size := rfl
    have h1 : (S1 i).data.size = (S1 i).size := rfl
    unfold keysW at ih ⊢
    simp only [List.map_cons, List.sum_cons, Rows.uptoBulkAll, Rows.uptoBulk, Array.length_toList] at ih ⊢
    omega
set_option maxRecDepth 100000 in
theorem open_keys {H : Type} {enc : TypeId × Value → H} {w : World} {base : Nat} {sp : Nat → Bool} {held : Bool} {r : Reach} {b0 : Nat} {v : Value} {d : DataW H} {p : List MemPlace}
    (hv : Value.okWide Tryd.prog w r b0 45 v) (h : DataW.Trod enc Tryd.prog w base sp held 45 v d p) :
    ∃ ks : List KeyR, KeysAt w v ks ∧ keysW ks ≤ Rows.uptoBulk d := by
  obtain ⟨fuel, hf⟩ := h
  obtain ⟨A, len, cap, rfl⟩ := Go.WideShapes.okWide_slice Tryd.underlying45 hv
  rcases Go.Deep.open_slice_pairs Tryd.underlying45 Tryd.underlying27 (by kernel_rfl) (by rfl) (by rfl) (by kernel_rfl) (by kernel_rfl) hf with ⟨e3, e4⟩ | ⟨a, len', cap', m, n, V0, V1, D0, D1, P0, P1, e3, _, hlc, _, hm, e4, hc⟩
  · simp [Value.cells] at e3
    obtain ⟨rfl, rfl, rfl⟩ := e3
    injection e4 with e4 _
    subst e4
    exact ⟨[], ⟨none, 0, rfl, fun j hj => absurd hj (by simp)⟩, by simp [keysW]⟩
  · simp [Value.cells] at e3
    obtain ⟨rfl, rfl, rfl⟩ := e3
    injection e4 with e4 _
    subst e4
    have hlm : len ≤ m := by rw [hm]; split <;> omega
    have hs : ∀ i, i < m → ∃ q : ByteArray × ByteArray, w.cell? (a.add (i * 2)) = some (.string q.1) ∧ w.cell? (a.add (i * 2 + 1)) = some (.string q.2) ∧ D0 i = .lit (.string q.1.data.toList) ∧ D1 i = .lit (.string q.2.data.toList) := fun i hi => by
      obtain ⟨h1, h2, h3, h4⟩ := hc i hi
      obtain ⟨s0, g0, g1, -⟩ := DataW.trod_string (ht := Tryd.underlying9) h3
      obtain ⟨s1, g2, g3, -⟩ := DataW.trod_string (ht := Tryd.underlying9) h4
      simp at g0 g2
      rw [g0] at h1
      rw [g2] at h2
      injection g1 with g1 _
      injection g3 with g3 _
      exact ⟨(s0, s1), h1, h2, g1, g3⟩
    obtain ⟨q, hq⟩ := Go.Deep.choose_lt hs
    refine ⟨(List.range len).map fun i => ⟨(q i).1, (q i).2⟩, ⟨some a, cap, by simp, fun j hj => ⟨a, rfl, ?_, ?_⟩⟩, ?_⟩
    · simp at hj
      rw [(hq j (by omega)).1]
      simp
    · simp at hj
      rw [(hq j (by omega)).2.1]
      simp
    · have hb := bulk_keys (H := H) (fun i => (q i).1) (fun i => (q i).2) (List.range len)
      have he : ((List.range len).map fun i => (DataW.agg [D0 i, D1 i] : DataW H)) = (List.range len).map fun i => (DataW.agg [.lit (.string (q i).1.data.toList), .lit (.string (q i).2.data.toList)] : DataW H) := by
        refine List.map_congr_left fun i hi => ?_
        have hi' := List.mem_range.1 hi
        rw [(hq i (by omega)).2.2.1, (hq i (by omega)).2.2.2]
      rw [he]
      simp only [Rows.uptoBulk]
      omega
end Go.Proofs.YtfhaoamlagnpjaaDoor
