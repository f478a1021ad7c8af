/-
  PLAIN LAWS: the sizes of the cleaned steps.
-/
import Derived.Test.YtaomecinemmdgaaRows
import Derived.Test.YtaomecinemmdgaaGBase
import Derived.Test.YtaomecinemmdgaaSCleanP
import Derived.Test.YtaomecinemmdgaaSWPlayTextExact
set_option linter.unusedVariables false
set_option linter.unusedSimpArgs false
namespace Go.Proofs.Ytaomecinemmdgaa
open Go.RowKit Go.Lib
theorem sizeS_some (ss : List ByteArray) (k : Nat) (hk : k ≤ 2) : sizeS (someL ss k) ≤ sizeS ss + 2 ∧ (sizeS ss ≤ 1048575 → sizeS (someL ss k) ≤ 1048576) := by
  have e0 : (⟨#[]⟩ : ByteArray).size = 0 := rfl
  have h : k = 0 ∨ k = 1 ∨ k = 2 := by omega
  rcases h with rfl | rfl | rfl
  · simp [someL, sizeS]
  · match ss with
    | [] => simp [someL, sizeS, List.range_succ, e0]
    | x :: r => simp [someL, sizeS, List.range_succ, e0]; omega
  · match ss with
    | [] => simp [someL, sizeS, List.range_succ, e0]
    | [x] => simp [someL, sizeS, List.range_succ, e0]
    | x :: y :: r => simp [someL, sizeS, List.range_succ, e0]; omega
theorem nS_le (k : Nat) : nS k ≤ 2 := by unfold nS; split; omega; split <;> omega
theorem nN_le (k : Nat) : nN k ≤ 4 := by unfold nN; split; omega; split <;> omega
theorem cleanP_sizes (s : StepR) : (cleanP s).ns.length ≤ s.ns.length + 4 ∧ sizeS (cleanP s).ss ≤ sizeS s.ss + 2 ∧ (sizeS s.ss ≤ 1048575 → sizeS (cleanP s).ss ≤ 1048576) := by
  unfold cleanP; dsimp only
  generalize cleanK s.kind = k
  refine ⟨?_, ?_⟩
  · unfold cleanN
    have := nN_le k
    split
    · split
      · rw [fewL_length]; omega
      · omega
    · rw [fewL_length]; omega
  · unfold cleanS
    split
    · omega
    · exact sizeS_some s.ss (nS k) (nS_le k)
/-- The law's list. -/
def comeL (l : List StepR) : List StepR := ⟨4, zero6, [], []⟩ :: l.map cleanP
theorem stepsW_clean : ∀ l : List StepR, stepsW (l.map cleanP) ≤ stepsW l + 6 * l.length
  | [] => by simp [stepsW]
  | s :: r => by
    have h := stepsW_clean r
    have h2 := cleanP_sizes s
    unfold stepsW at h ⊢
    simp only [List.map_cons, List.sum_cons, List.length_cons]
    unfold stepW1 at h ⊢
    omega
theorem comeL_W (l : List StepR) : stepsW (comeL l) ≤ 7 * stepsW l + 1 := by
  have h := stepsW_clean l
  have h2 := stepsW_len l
  have e : stepsW (comeL l) = 1 + stepsW (l.map cleanP) := by unfold comeL stepsW; rw [List.map_cons, List.sum_cons]; rfl
  omega
theorem first_clean : Clean ⟨4, zero6, [], []⟩ := by
  have h := clean_clean ⟨4, zero6, [], []⟩ rfl (by simp) (by intro z hz; simp [zero6] at hz; subst hz; simp [In64])
  have e : cleanP ⟨4, zero6, [], []⟩ = ⟨4, zero6, [], []⟩ := rfl
  rwa [e] at h
theorem comeL_clean (l : List StepR) (h6 : ∀ s ∈ l, s.o.length = 6) (hi : ∀ s ∈ l, (∀ z ∈ s.ns, In64 z) ∧ ∀ z ∈ s.o, In64 z) : ∀ s ∈ comeL l, Clean s := by
  intro s hs
  unfold comeL at hs
  rcases List.mem_cons.1 hs with rfl | hs
  · exact first_clean
  · obtain ⟨x, hx, rfl⟩ := List.mem_map.1 hs
    exact clean_clean x (h6 x hx) (hi x hx).1 (hi x hx).2
theorem clean_in {s : StepR} (h : Clean s) : (∀ z ∈ s.ns, In64 z) ∧ (∀ z ∈ s.o, In64 z) ∧ s.o.length = 6 := by
  obtain ⟨k, -, -, -, h6, hn, ho, -⟩ := h
  exact ⟨hn, ho, h6⟩
theorem comeL_small (l : List StepR) (hz : stepsW l ≤ 1048576) : ∀ s ∈ comeL l, s.ns.length ≤ 1048600 ∧ s.ss.length ≤ 1048600 ∧ sizeS s.ss ≤ 1048576 := by
  intro s hs
  unfold comeL at hs
  rcases List.mem_cons.1 hs with rfl | hs
  · simp [sizeS]
  · obtain ⟨x, hx, rfl⟩ := List.mem_map.1 hs
    have h1 := stepsW_mem hx
    have h2 := cleanP_sizes x
    unfold stepW1 at h1
    have h3 := sizeS_len (cleanP x).ss
    omega
end Go.Proofs.Ytaomecinemmdgaa
