/-
  PLAIN LAWS: what decO answers is small; a list of steps stays under worlds that differ above.
-/
import Derived.Test.YtaomecinemmdgaaRows
import Derived.Test.YtaomecinemmdgaaGBase
import Derived.Test.YtaomecinemmdgaaSRScript
import Derived.Test.YtaomecinemmdgaaSDecP
set_option linter.unusedVariables false
set_option linter.unusedSimpArgs false
namespace Go.Proofs.Ytaomecinemmdgaa
open Go.RowKit Go.Lib
theorem stepsAt_below {w w' : World} {v : Value} {l : List StepR} (h : StepsAt w v l) (hb : Below w.heap.size w w') : StepsAt w' v l := by
  obtain ⟨A, cap, rfl, he⟩ := h
  refine ⟨A, cap, rfl, fun j hj => ?_⟩
  obtain ⟨p, hp, hs⟩ := he j hj
  refine ⟨p, hp, ?_⟩
  obtain ⟨vn, vs, a, b, c, d, e, f, ho, p0, p1, p2, p3, p4, p5, p6, p7, p8, hI, hS⟩ := hs
  have hl := World.block_lt_of_cell? w _ p0
  have hc : ∀ i : Nat, w'.cell? ⟨(p.add (j * 9)).block, (p.add (j * 9)).off + i, none⟩ = w.cell? ⟨(p.add (j * 9)).block, (p.add (j * 9)).off + i, none⟩ := fun i => hb.cell (p := ⟨(p.add (j * 9)).block, (p.add (j * 9)).off + i, none⟩) hl
  exact ⟨vn, vs, a, b, c, d, e, f, ho, (hb.cell hl).trans p0, (hc 1).trans p1, (hc 2).trans p2, (hc 3).trans p3, (hc 4).trans p4, (hc 5).trans p5, (hc 6).trans p6, (hc 7).trans p7, (hc 8).trans p8, hI.below hb, hS.below hb⟩
theorem linL_len (l : List UInt8) : (linL l).length ≤ l.length + 1 := by
  have h := splL_length 10 l
  unfold linL
  split
  · rw [List.length_dropLast]; omega
  · exact h
theorem linL_mem {l x : List UInt8} (h : x ∈ linL l) : x.length ≤ l.length := by
  unfold linL at h
  split at h
  · exact splL_mem 10 l x ((List.dropLast_sublist _).subset h)
  · exact splL_mem 10 l x h
theorem stepO_small {ws : List ByteArray} {s : StepR} (h : stepO ws = .inr s) : s.ns.length ≤ ws.length ∧ s.ss.length ≤ ws.length := by
  unfold stepO at h
  simp only at h
  split at h
  · cases h
  · split at h
    · cases h
    · split at h
      · cases h
      · rename_i ns hN
        injection h with h
        subst h
        have hl := numsO_len hN
        rw [List.length_take, List.length_drop] at hl
        simp only [List.length_drop]
        refine ⟨?_, by omega⟩
        split
        · simp
        · omega
def SmallS (B : Nat) (s : StepR) : Prop := s.ns.length ≤ B ∧ s.ss.length ≤ B
theorem decF_small (B : Nat) : ∀ (LL : List (List UInt8)) (n : Nat) (acc : List StepR), (∀ l ∈ LL, l.length + 1 ≤ B) → (∀ s ∈ acc, SmallS B s) → (decF LL n acc).1.length ≤ acc.length + LL.length ∧ ∀ s ∈ (decF LL n acc).1, SmallS B s
  | [], n, acc, _, ha => by simp only [decF]; exact ⟨by simp, ha⟩
  | l :: r, n, acc, hL, ha => by
    have hr : ∀ x ∈ r, x.length + 1 ≤ B := fun x hx => hL x (List.mem_cons_of_mem _ hx)
    have hl := hL l (List.mem_cons_self ..)
    rw [decF]
    split
    · have h := decF_small B r (n + 1) acc hr ha
      refine ⟨?_, h.2⟩
      have := h.1
      rw [List.length_cons]; omega
    · split
      · exact ⟨by simp, by simp⟩
      · rename_i ws hw
        split
        · exact ⟨by simp, by simp⟩
        · rename_i s hs
          have h1 := stepO_small hs
          have h2 := (wdsL_size hw).2
          have h3 : (bsL l).size = l.length := by show l.toArray.size = _; rw [List.size_toArray]
          have h := decF_small B r (n + 1) (acc ++ [s]) hr (fun x hx => by
            rcases List.mem_append.1 hx with hx | hx
            · exact ha x hx
            · rw [List.mem_singleton] at hx
              subst hx
              exact ⟨by omega, by omega⟩)
          refine ⟨?_, h.2⟩
          have h4 := h.1
          rw [List.length_append, List.length_singleton] at h4
          rw [List.length_cons]; omega
theorem decO_big (t : ByteArray) (hs : t.size ≤ 4000000000) : (decO t).1.length ≤ 562949953421312 ∧ ∀ s ∈ (decO t).1, s.ns.length ≤ 562949953421312 ∧ s.ss.length ≤ 562949953421312 := by
  have hll : t.data.toList.length = t.size := Array.length_toList
  have h := decF_small 5000000000 (linL t.data.toList) 1 [] (fun l hl => by have := linL_mem hl; omega) (by simp)
  have h2 := linL_len t.data.toList
  unfold decO
  refine ⟨?_, fun s hs => ?_⟩
  · have := h.1; simp only [List.length_nil] at this; omega
  · have := h.2 s hs; unfold SmallS at this; omega
theorem decO_small (t : ByteArray) (hs : t.size ≤ 1048577) : (decO t).1.length ≤ 562949953421312 ∧ ∀ s ∈ (decO t).1, s.ns.length ≤ 562949953421312 ∧ s.ss.length ≤ 562949953421312 := by
  have hll : t.data.toList.length = t.size := Array.length_toList
  have h := decF_small 2000000 (linL t.data.toList) 1 [] (fun l hl => by have := linL_mem hl; omega) (by simp)
  have h2 := linL_len t.data.toList
  unfold decO
  refine ⟨?_, fun s hs => ?_⟩
  · have := h.1; simp only [List.length_nil] at this; omega
  · have := h.2 s hs; unfold SmallS at this; omega
end Go.Proofs.Ytaomecinemmdgaa
