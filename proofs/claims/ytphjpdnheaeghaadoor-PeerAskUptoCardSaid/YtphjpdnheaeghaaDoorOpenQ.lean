/-
  ARGUMENTS of types []string, api.Request, opened; a row of texts with a mark behind it.
-/
import Derived.Test.YtphjpdnheaeghaaDoorRows
import Derived.Test.YtphjpdnheaeghaaDoorWd
import Derived.Test.YtphjpdnheaeghaaDoorStrRow
import Derived.Test.YtphjpdnheaeghaaDoorRPAsk
import Derived.Test.YtphjpdnheaeghaaDoorApartW
import Derived.Lib.SmallJoins
import Derived.Deep.Strs
set_option linter.unusedVariables false
set_option linter.unusedSimpArgs false
namespace Go.Proofs.YtphjpdnheaeghaaDoor
open Go.RowKit Go.Lib Go.Joins
def textsW (es : List ByteArray) : Nat := (es.map fun e => e.size + 1).sum
theorem textsW_mem {es : List ByteArray} {k : ByteArray} (h : k ∈ es) : k.size ≤ textsW es := by
  induction es with
  | nil => simp at h
  | cons x r ih =>
    unfold textsW at ih ⊢
    rw [List.map_cons, List.sum_cons]
    rcases List.mem_cons.1 h with rfl | h
    · omega
    · have := ih h; omega
theorem textsW_len (es : List ByteArray) : es.length ≤ textsW es := by
  induction es with
  | nil => simp [textsW]
  | cons x r ih =>
    unfold textsW at ih ⊢
    rw [List.map_cons, List.sum_cons, List.length_cons]
    omega
theorem bulk_texts {H : Type} (S : Nat → ByteArray) (l : List Nat) : textsW (l.map S) ≤ Rows.uptoBulkAll (l.map fun i => (DataW.lit (.string (S i).data.toList) : DataW H)) := by
  induction l with
  | nil => simp [textsW, Rows.uptoBulkAll]
  | cons i r ih =>
    have h0 : (S i).data.size = (S i).size := rfl
    unfold textsW at ih ⊢
    simp only [List.map_cons, List.sum_cons, Rows.uptoBulkAll, Rows.uptoBulk, Array.length_toList] at ih ⊢
    omega
theorem open_texts {H : Type} {enc : TypeId × Value → H} {w : World} {base : Nat} {sp : Nat → Bool} {held : Bool} {n : Nat} {x : Value} {y : DataW H × List MemPlace}
    (h : DataW.trod enc Tryd.prog w base sp held n 22 [x] = some y) :
    ∃ (A : Option Addr) (c : Nat) (es : List ByteArray), x = .slice A es.length c ∧ es.length ≤ c ∧ StrsAt w x es ∧ textsW es ≤ Rows.uptoBulk y.1 := by
  rcases Go.Deep.open_strs Tryd.underlying22 Tryd.underlying9 (by kernel_rfl) h with ⟨e3, rfl⟩ | ⟨a, len, cap, m, S, e3, _, hlc, _, hm, rfl, hc⟩
  · simp at e3
    subst e3
    exact ⟨none, 0, [], rfl, Nat.le_refl _, ⟨none, 0, rfl, fun j hj => by simp at hj⟩, by simp [textsW]⟩
  · simp at e3
    subst e3
    have hlm : len ≤ m := by rw [hm]; split <;> omega
    refine ⟨some a, cap, (List.range len).map S, by simp, by simp; omega, ⟨some a, cap, by simp, fun j hj => ⟨a, rfl, ?_⟩⟩, ?_⟩
    · simp at hj
      rw [(hc j (by omega)).1]
      simp
    · have hb := bulk_texts (H := H) S (List.range len)
      simp only [Rows.uptoBulk]
      omega
set_option maxRecDepth 100000 in
theorem open_list {H : Type} {enc : TypeId × Value → H} {w : World} {base : Nat} {sp : Nat → Bool} {held : Bool} {r : Reach} {b0 : Nat} {v : Value} {d : DataW H} {p : List MemPlace}
    (hv : Value.okWide Tryd.prog w r b0 22 v) (h : DataW.Trod enc Tryd.prog w base sp held 22 v d p) :
    ∃ (A : Option Addr) (c : Nat) (es : List ByteArray), v = .slice A es.length c ∧ es.length ≤ c ∧ StrsAt w v es ∧ textsW es ≤ Rows.uptoBulk d := by
  obtain ⟨A, len, cap, rfl⟩ := Go.WideShapes.okWide_slice Tryd.underlying22 hv
  obtain ⟨fuel, hf⟩ := h
  exact open_texts (by simpa [Value.cells] using hf)
theorem in64P_wf {n : Int} (h : (Lit.int .i64 n).wf = true) : In64P n := by
  simp only [Lit.wf, Bool.and_eq_true, decide_eq_true_eq] at h
  exact ⟨h.1, h.2⟩
set_option maxRecDepth 100000 in
theorem open_request {H : Type} {enc : TypeId × Value → H} {w : World} {base : Nat} {sp : Nat → Bool} {held : Bool} {r : Reach} {b0 : Nat} {v : Value} {d : DataW H} {p : List MemPlace}
    (hv : Value.okWide Tryd.prog w r b0 24 v) (h : DataW.Trod enc Tryd.prog w base sp held 24 v d p) :
    ∃ (c : Int) (vs : Value) (S : List ByteArray) (nt : ByteArray), v = .agg #[.int .i64 c, vs, .string nt] ∧ In64P c ∧ StrsAt w vs S ∧ textsW S + nt.size ≤ Rows.uptoBulk d := by
  obtain ⟨v0, v1, v2, y0, y1, y2, k, rfl, rfl, rfl, h0, h1, h2⟩ := open_agg3 Tryd.underlying24 (by kernel_rfl) (by kernel_rfl) hv h
  obtain ⟨z, e0, rfl, hwf⟩ := DataW.trod_int Tryd.underlying3 h0
  obtain ⟨A, c, S, hx, -, hS, hSb⟩ := open_texts h1
  obtain ⟨s2, e2, rfl, -⟩ := DataW.trod_string (ht := Tryd.underlying9) h2
  simp at e0 e2
  subst e0 e2
  refine ⟨z, v1, S, s2, rfl, in64P_wf hwf, hS, ?_⟩
  have hsz : s2.data.size = s2.size := rfl
  simp [Rows.uptoBulk, Rows.uptoBulkAll]
  omega
theorem OwnT.setQ {W : World} {b g n c : Nat} {l : List ByteArray} (h : OwnT W b (.slice (some ⟨g, 0, none⟩) n c) l) (hn : l.length = n) (j : Nat) (hj : j < n) (z : ByteArray) : OwnT (W.setCell ⟨g, j, none⟩ (.string z)) b (.slice (some ⟨g, 0, none⟩) n c) (l.set j z) := by
  subst hn
  have h1 := row_set h j hj (.string z)
  unfold OwnT
  rw [List.length_set, List.map_set]
  exact h1
theorem OwnT.atQ {W : World} {b g n c : Nat} {l : List ByteArray} (h : OwnT W b (.slice (some ⟨g, 0, none⟩) n c) l) (hn : l.length = n) (j : Nat) (hj : j < n) : W.cell? ⟨g, j, none⟩ = some (.string (l[j]'(by omega))) ∧ W.frozen? ⟨g, j, none⟩ = false := by
  subst hn
  refine ⟨?_, row_frozen h j⟩
  rw [World.ownsRow.cellAt h j (by omega), List.getElem?_map, List.getElem?_eq_getElem hj]; rfl
end Go.Proofs.YtphjpdnheaeghaaDoor
