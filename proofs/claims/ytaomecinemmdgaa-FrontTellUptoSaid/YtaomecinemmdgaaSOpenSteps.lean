/-
  An argument of type []api.Step, opened.
-/
import Derived.Test.YtaomecinemmdgaaRows
import Derived.Deep.Strs
import Derived.ChangeSlices
import Derived.Test.YtaomecinemmdgaaGBase
import Derived.Test.YtaomecinemmdgaaSRScript
set_option linter.unusedVariables false
set_option linter.unusedSimpArgs false
namespace Go.Proofs.Ytaomecinemmdgaa
open Go.RowKit Go.Lib
def stepW1 (s : StepR) : Nat := s.ns.length + sizeS s.ss + 1
def stepsW (l : List StepR) : Nat := (l.map stepW1).sum
theorem stepsW_mem {l : List StepR} {s : StepR} (h : s ∈ l) : stepW1 s ≤ stepsW l := by
  induction l with
  | nil => simp at h
  | cons x r ih =>
    unfold stepsW at ih ⊢
    rw [List.map_cons, List.sum_cons]
    rcases List.mem_cons.1 h with rfl | h
    · omega
    · have := ih h; omega
theorem stepsW_len (l : List StepR) : l.length ≤ stepsW l := by
  induction l with
  | nil => simp [stepsW]
  | cons x r ih =>
    unfold stepsW stepW1 at ih ⊢
    rw [List.map_cons, List.sum_cons, List.length_cons]
    omega
theorem in64_wf {n : Int} (h : (Lit.int .i64 n).wf = true) : In64 n := by
  simp only [Lit.wf, Bool.and_eq_true, decide_eq_true_eq] at h
  exact ⟨h.1, h.2⟩
theorem bulk_lits {H : Type} (l : List Int) : l.length ≤ Rows.uptoBulkAll (Go.ChangeShapes.lits (H := H) .i64 l) := by
  induction l with
  | nil => simp
  | cons x r ih =>
    unfold Go.ChangeShapes.lits at ih ⊢
    rw [List.map_cons, Rows.uptoBulkAll, List.length_cons]
    simp only [Rows.uptoBulk]
    omega
theorem bulk_strs {H : Type} (S : Nat → ByteArray) (l : List Nat) : sizeS (l.map S) ≤ Rows.uptoBulkAll (l.map fun i => (DataW.lit (.string (S i).data.toList) : DataW H)) := by
  induction l with
  | nil => simp [sizeS, Rows.uptoBulkAll]
  | cons i r ih =>
    have h0 : (S i).data.size = (S i).size := rfl
    unfold sizeS at ih ⊢
    simp only [List.map_cons, List.foldr_cons, Rows.uptoBulkAll, Rows.uptoBulk, Array.length_toList] at ih ⊢
    omega
theorem open_ns {H : Type} {enc : TypeId × Value → H} {w : World} {base : Nat} {sp : Nat → Bool} {held : Bool} {n : Nat} {x : Value} {y : DataW H × List MemPlace}
    (h : DataW.trod enc Try.prog w base sp held n 27 [x] = some y) : ∃ l : List Int, IntsAt w x l ∧ l.length ≤ Rows.uptoBulk y.1 ∧ ∀ z ∈ l, In64 z := by
  rcases Go.ChangeShapes.open_ints Try.underlying27 Try.underlying3 (by kernel_rfl) h with ⟨e3, rfl⟩ | ⟨a, len, cap, zs, e3, _, hlc, _, hm, rfl, hc, hw⟩
  · simp at e3
    subst e3
    exact ⟨[], ⟨none, 0, rfl, fun j hj => absurd hj (by simp)⟩, by simp, by simp⟩
  · simp at e3
    subst e3
    have hlm : len ≤ zs.length := by rw [hm]; split <;> omega
    have hl : (zs.take len).length = len := by rw [List.length_take]; omega
    refine ⟨zs.take len, ⟨some a, cap, by rw [hl], fun j hj => ⟨a, rfl, ?_⟩⟩, ?_, fun z hz => in64_wf (hw z (List.mem_of_mem_take hz))⟩
    · rw [hl] at hj
      rw [hc j (by omega), List.getElem_take, List.getD_eq_getElem?_getD, List.getElem?_eq_getElem (by omega)]
      rfl
    · have := bulk_lits (H := H) (zs.take len)
      simp only [Rows.uptoBulk]
      omega
theorem open_ss {H : Type} {enc : TypeId × Value → H} {w : World} {base : Nat} {sp : Nat → Bool} {held : Bool} {n : Nat} {x : Value} {y : DataW H × List MemPlace}
    (h : DataW.trod enc Try.prog w base sp held n 28 [x] = some y) : ∃ l : List ByteArray, StrsAt w x l ∧ sizeS l ≤ Rows.uptoBulk y.1 := by
  rcases Go.Deep.open_strs Try.underlying28 Try.underlying9 (by kernel_rfl) h with ⟨e3, rfl⟩ | ⟨a, len, cap, m, S, e3, _, hlc, _, hm, rfl, hc⟩
  · simp at e3
    subst e3
    exact ⟨[], ⟨none, 0, rfl, fun j hj => absurd hj (by simp)⟩, by simp [sizeS]⟩
  · simp at e3
    subst e3
    have hlm : len ≤ m := by rw [hm]; split <;> omega
    refine ⟨(List.range len).map S, ⟨some a, cap, by simp, fun j hj => ⟨a, rfl, ?_⟩⟩, ?_⟩
    · simp at hj
      rw [(hc j (by omega)).1]
      simp
    · have hb := bulk_strs (H := H) S (List.range len)
      simp only [Rows.uptoBulk]
      omega
set_option maxRecDepth 100000 in
theorem open_step {H : Type} {enc : TypeId × Value → H} {w : World} {base : Nat} {sp : Nat → Bool} {held : Bool} {n : Nat} {p : Addr} {cs : List Value} {y : DataW H × List MemPlace}
    (hc : w.cells? base p 9 = some cs) (h : DataW.trod enc Try.prog w base sp held n 52 cs = some y) :
    ∃ s : StepR, StepAt w p s ∧ (∀ z ∈ s.ns, In64 z) ∧ (∀ z ∈ s.o, In64 z) ∧ stepW1 s ≤ Rows.uptoBulk y.1 := by
  obtain ⟨-, hlen, hcell⟩ := World.cells?_some hc
  obtain ⟨xs, k, -, rfl, -, hxl, hf⟩ := DataW.trod_struct Try.underlying52 h
  have ci : Try.prog.cellsOf 3 = 1 := by kernel_rfl
  have cn : Try.prog.cellsOf 27 = 1 := by kernel_rfl
  have cz : Try.prog.cellsOf 28 = 1 := by kernel_rfl
  have co : Try.prog.cellsOf 50 = 6 := by kernel_rfl
  match xs, hxl, cs, hlen with
  | [y0, y1, y2, y3], _, [x0, x1, x2, x3, x4, x5, x6, x7, x8], _ =>
    have g0 := hf 0 _ rfl
    have g1 := hf 1 _ rfl
    have g2 := hf 2 _ rfl
    have g3 := hf 3 _ rfl

    obtain ⟨kd, e0, rfl, w0⟩ := DataW.trod_int Try.underlying3 (show DataW.trod enc Try.prog w base sp held k 3 [x0] = some y0 from g0)
    obtain ⟨ns, hN, hNb, hNi⟩ := open_ns (show DataW.trod enc Try.prog w base sp held k 27 [x1] = some y1 from g1)
    obtain ⟨ss, hS, hSb⟩ := open_ss (show DataW.trod enc Try.prog w base sp held k 28 [x2] = some y2 from g2)
    obtain ⟨zs, k2, -, rfl, -, hzl, hz⟩ := DataW.trod_struct Try.underlying50 (show DataW.trod enc Try.prog w base sp held k 50 [x3, x4, x5, x6, x7, x8] = some y3 from g3)
    match zs, hzl with
    | [z0, z1, z2, z3, z4, z5], _ =>
      have i0 := hz 0 _ rfl
      have i1 := hz 1 _ rfl
      have i2 := hz 2 _ rfl
      have i3 := hz 3 _ rfl
      have i4 := hz 4 _ rfl
      have i5 := hz 5 _ rfl

      obtain ⟨a, e3, rfl, w3⟩ := DataW.trod_int Try.underlying3 (show DataW.trod enc Try.prog w base sp held k2 3 [x3] = some z0 from i0)
      obtain ⟨b, e4, rfl, w4⟩ := DataW.trod_int Try.underlying3 (show DataW.trod enc Try.prog w base sp held k2 3 [x4] = some z1 from i1)
      obtain ⟨c, e5, rfl, w5⟩ := DataW.trod_int Try.underlying3 (show DataW.trod enc Try.prog w base sp held k2 3 [x5] = some z2 from i2)
      obtain ⟨d, e6, rfl, w6⟩ := DataW.trod_int Try.underlying3 (show DataW.trod enc Try.prog w base sp held k2 3 [x6] = some z3 from i3)
      obtain ⟨e, e7, rfl, w7⟩ := DataW.trod_int Try.underlying3 (show DataW.trod enc Try.prog w base sp held k2 3 [x7] = some z4 from i4)
      obtain ⟨f, e8, rfl, w8⟩ := DataW.trod_int Try.underlying3 (show DataW.trod enc Try.prog w base sp held k2 3 [x8] = some z5 from i5)
      injection e0 with e0 _; injection e3 with e3 _; injection e4 with e4 _; injection e5 with e5 _; injection e6 with e6 _; injection e7 with e7 _; injection e8 with e8 _
      subst e0 e3 e4 e5 e6 e7 e8
      refine ⟨⟨kd, [a, b, c, d, e, f], ns, ss⟩, ⟨x1, x2, a, b, c, d, e, f, rfl, hcell 0 (by omega), hcell 1 (by omega), hcell 2 (by omega), hcell 3 (by omega), hcell 4 (by omega), hcell 5 (by omega), hcell 6 (by omega), hcell 7 (by omega), hcell 8 (by omega), hN, hS⟩, hNi, ?_, ?_⟩
      · intro z hz
        simp only [List.mem_cons, List.not_mem_nil, or_false] at hz
        rcases hz with rfl | rfl | rfl | rfl | rfl | rfl
        · exact in64_wf w3
        · exact in64_wf w4
        · exact in64_wf w5
        · exact in64_wf w6
        · exact in64_wf w7
        · exact in64_wf w8
      · simp only [List.map_cons, List.map_nil, Rows.uptoBulk, Rows.uptoBulkAll, stepW1]
        omega
theorem bulk_steps {H : Type} (D : Nat → DataW H) (S : Nat → StepR) (l : List Nat) (h : ∀ i ∈ l, stepW1 (S i) ≤ Rows.uptoBulk (D i)) : stepsW (l.map S) ≤ Rows.uptoBulkAll (l.map D) := by
  induction l with
  | nil => simp [stepsW, Rows.uptoBulkAll]
  | cons i r ih =>
    have h0 := h i (List.mem_cons_self ..)
    have h1 := ih (fun j hj => h j (List.mem_cons_of_mem _ hj))
    unfold stepsW at h1 ⊢
    simp only [List.map_cons, List.sum_cons, Rows.uptoBulkAll] at h1 ⊢
    omega
set_option maxRecDepth 100000 in
theorem open_steps {H : Type} {enc : TypeId × Value → H} {w : World} {base : Nat} {sp : Nat → Bool} {held : Bool} {r : Reach} {b0 : Nat} {v : Value} {d : DataW H} {p : List MemPlace}
    (hv : Value.okWide Try.prog w r b0 22 v) (h : DataW.Trod enc Try.prog w base sp held 22 v d p) :
    ∃ l : List StepR, StepsAt w v l ∧ stepsW l ≤ Rows.uptoBulk d ∧ ∀ s ∈ l, (∀ z ∈ s.ns, In64 z) ∧ ∀ z ∈ s.o, In64 z := by
  obtain ⟨fuel, hf⟩ := h
  obtain ⟨A, len, cap, rfl⟩ := Go.WideShapes.okWide_slice Try.underlying22 hv
  rcases Go.Deep.open_slice Try.underlying22 hf with ⟨e3, e4⟩ | ⟨a, len', cap', m, n, D, Pl, e3, _, hlc, _, hm, e4, hc⟩
  · simp [Value.cells] at e3
    obtain ⟨rfl, rfl, rfl⟩ := e3
    exact ⟨[], ⟨none, 0, rfl, fun j hj => absurd hj (by simp)⟩, by simp [stepsW], by simp⟩
  · simp [Value.cells] at e3
    obtain ⟨rfl, rfl, rfl⟩ := e3
    injection e4 with e4 _
    subst e4
    have c9 : Try.prog.cellsOf 52 = 9 := by kernel_rfl
    rw [c9] at hc
    have hlm : len ≤ m := by rw [hm]; split <;> omega
    have hs : ∀ i, i < m → ∃ s : StepR, StepAt w (a.add (i * 9)) s ∧ (∀ z ∈ s.ns, In64 z) ∧ (∀ z ∈ s.o, In64 z) ∧ stepW1 s ≤ Rows.uptoBulk (D i) := fun i hi => by
      obtain ⟨cs', h1, h2⟩ := hc i hi
      exact open_step h1 h2
    haveI : Inhabited StepR := ⟨⟨0, [], [], []⟩⟩
    obtain ⟨q, hq⟩ := Go.Deep.choose_lt hs
    refine ⟨(List.range len).map q, ⟨some a, cap, by simp, fun j hj => ⟨a, rfl, ?_⟩⟩, ?_, fun s hs => ?_⟩
    · simp at hj
      have := (hq j (by omega)).1
      simpa using this
    · have hb := bulk_steps D q (List.range len) (fun i hi => (hq i (by have := List.mem_range.1 hi; omega)).2.2.2)
      simp only [Rows.uptoBulk]
      omega
    · obtain ⟨i, hi, rfl⟩ := List.mem_map.1 hs
      have := hq i (by have := List.mem_range.1 hi; omega)
      exact ⟨this.2.1, this.2.2.1⟩
end Go.Proofs.Ytaomecinemmdgaa
