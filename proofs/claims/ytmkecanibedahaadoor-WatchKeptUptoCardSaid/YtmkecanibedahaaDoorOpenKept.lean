/-
  ARGUMENTS of types api.Promise, api.Checkpoint, []string, opened (without the words of XText).
-/
import Derived.Test.YtmkecanibedahaaDoorRows
import Derived.Test.YtmkecanibedahaaDoorWd
import Derived.Test.YtmkecanibedahaaDoorStrRow
import Derived.Lib.SmallJoins
import Derived.Deep.Strs
set_option linter.unusedVariables false
namespace Go.Proofs.YtmkecanibedahaaDoor
open Go.RowKit Go.Lib Go.Joins
def textsW (es : List ByteArray) : Nat := (es.map fun e => e.size + 1).sum
theorem textsW_mem {es : List ByteArray} {k : ByteArray} (h : k ∈ es) : k.size ≤ textsW es := by
  induction es with
  | nil => simp at h
  | cons x r ih =>
    unfold textsW at ih ⊢
    rw [List.map_cons, List.sum_cons]
    rcases List.mem_cons.1 h with rfl | h
    · omega
    · have := ih h; omega
theorem textsW_len (es : List ByteArray) : es.length ≤ textsW es := by
  induction es with
  | nil => simp [textsW]
  | cons x r ih =>
    unfold textsW at ih ⊢
    rw [List.map_cons, List.sum_cons, List.length_cons]
    omega
theorem bulk_texts {H : Type} (S : Nat → ByteArray) (l : List Nat) : textsW (l.map S) ≤ Rows.uptoBulkAll (l.map fun i => (DataW.lit (.string (S i).data.toList) : DataW H)) := by
  induction l with
  | nil => simp [textsW, Rows.uptoBulkAll]
  | cons i r ih =>
    have h0 : (S i).data.size = (S i).size := rfl
    unfold textsW at ih ⊢
    simp only [List.map_cons, List.sum_cons, Rows.uptoBulkAll, Rows.uptoBulk, Array.length_toList] at ih ⊢
    omega
theorem open_texts {H : Type} {enc : TypeId × Value → H} {w : World} {base : Nat} {sp : Nat → Bool} {held : Bool} {n : Nat} {x : Value} {y : DataW H × List MemPlace}
    (h : DataW.trod enc Tryd.prog w base sp held n 24 [x] = some y) :
    ∃ (A : Option Addr) (c : Nat) (es : List ByteArray), x = .slice A es.length c ∧ es.length ≤ c ∧ StrsAt w x es ∧ textsW es ≤ Rows.uptoBulk y.1 := by
  rcases Go.Deep.open_strs Tryd.underlying24 Tryd.underlying9 (by kernel_rfl) h with ⟨e3, rfl⟩ | ⟨a, len, cap, m, S, e3, _, hlc, _, hm, rfl, hc⟩
  · simp at e3
    subst e3
    exact ⟨none, 0, [], rfl, Nat.le_refl _, ⟨none, 0, rfl, fun j hj => by simp at hj⟩, by simp [textsW]⟩
  · simp at e3
    subst e3
    have hlm : len ≤ m := by rw [hm]; split <;> omega
    refine ⟨some a, cap, (List.range len).map S, by simp, by simp; omega, ⟨some a, cap, by simp, fun j hj => ⟨a, rfl, ?_⟩⟩, ?_⟩
    · simp at hj
      rw [(hc j (by omega)).1]
      simp
    · have hb := bulk_texts (H := H) S (List.range len)
      simp only [Rows.uptoBulk]
      omega
set_option maxRecDepth 100000 in
theorem open_list {H : Type} {enc : TypeId × Value → H} {w : World} {base : Nat} {sp : Nat → Bool} {held : Bool} {r : Reach} {b0 : Nat} {v : Value} {d : DataW H} {p : List MemPlace}
    (hv : Value.okWide Tryd.prog w r b0 24 v) (h : DataW.Trod enc Tryd.prog w base sp held 24 v d p) :
    ∃ (A : Option Addr) (c : Nat) (es : List ByteArray), v = .slice A es.length c ∧ es.length ≤ c ∧ StrsAt w v es ∧ textsW es ≤ Rows.uptoBulk d := by
  obtain ⟨A, len, cap, rfl⟩ := Go.WideShapes.okWide_slice Tryd.underlying24 hv
  obtain ⟨fuel, hf⟩ := h
  exact open_texts (by simpa [Value.cells] using hf)
set_option maxRecDepth 100000 in
theorem open_cpt {H : Type} {enc : TypeId × Value → H} {w : World} {base : Nat} {sp : Nat → Bool} {held : Bool} {r : Reach} {b0 : Nat} {v : Value} {d : DataW H} {p : List MemPlace}
    (hv : Value.okWide Tryd.prog w r b0 26 v) (h : DataW.Trod enc Tryd.prog w base sp held 26 v d p) :
    ∃ (o : ByteArray) (n : Int) (rt : ByteArray) (x : Value) (es : List ByteArray), v = .agg #[.string o, .int .i64 n, .string rt, x] ∧ StrsAt w x es ∧ o.size + rt.size + textsW es ≤ Rows.uptoBulk d := by
  obtain ⟨v0, v1, v2, v3, y0, y1, y2, y3, k, rfl, rfl, rfl, h0, h1, h2, h3⟩ := open_agg4 Tryd.underlying26 (by kernel_rfl) (by kernel_rfl) hv h
  obtain ⟨s0, e0, rfl, -⟩ := DataW.trod_string (ht := Tryd.underlying9) h0
  obtain ⟨s2, e2, rfl, -⟩ := DataW.trod_string (ht := Tryd.underlying9) h2
  obtain ⟨z, e1, rfl, -⟩ := DataW.trod_int Tryd.underlying3 h1
  simp at e0 e1 e2
  subst e0 e1 e2
  obtain ⟨A, c, es, hx, -, hS, hw⟩ := open_texts h3
  refine ⟨s0, z, s2, v3, es, rfl, hS, ?_⟩
  have z0 : s0.data.size = s0.size := rfl
  have z2 : s2.data.size = s2.size := rfl
  simp only [Rows.uptoBulk, Rows.uptoBulkAll, Array.length_toList]
  omega
set_option maxRecDepth 100000 in
theorem open_promise {H : Type} {enc : TypeId × Value → H} {w : World} {base : Nat} {sp : Nat → Bool} {held : Bool} {r : Reach} {b0 : Nat} {v : Value} {d : DataW H} {p : List MemPlace}
    (hv : Value.okWide Tryd.prog w r b0 23 v) (h : DataW.Trod enc Tryd.prog w base sp held 23 v d p) :
    ∃ (ph : ByteArray) (p1 due : Int) (p3 : ByteArray), v = .agg #[.string ph, .int .i64 p1, .int .i64 due, .string p3] ∧ ph.size + p3.size ≤ Rows.uptoBulk d := by
  obtain ⟨v0, v1, v2, v3, y0, y1, y2, y3, k, rfl, rfl, rfl, h0, h1, h2, h3⟩ := open_agg4 Tryd.underlying23 (by kernel_rfl) (by kernel_rfl) hv h
  obtain ⟨s0, e0, rfl, -⟩ := DataW.trod_string (ht := Tryd.underlying9) h0
  obtain ⟨s3, e3, rfl, -⟩ := DataW.trod_string (ht := Tryd.underlying9) h3
  obtain ⟨z1, e1, rfl, -⟩ := DataW.trod_int Tryd.underlying3 h1
  obtain ⟨z2, e2, rfl, -⟩ := DataW.trod_int Tryd.underlying3 h2
  simp at e0 e1 e2 e3
  subst e0 e1 e2 e3
  refine ⟨s0, z1, z2, s3, rfl, ?_⟩
  have q0 : s0.data.size = s0.size := rfl
  have q3 : s3.data.size = s3.size := rfl
  simp only [Rows.uptoBulk, Rows.uptoBulkAll, Array.length_toList]
  omega
end Go.Proofs.YtmkecanibedahaaDoor
