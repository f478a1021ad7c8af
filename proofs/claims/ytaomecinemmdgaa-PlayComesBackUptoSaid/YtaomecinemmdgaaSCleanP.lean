/-
  PLAIN LAW of the law's clean: a cleaned step is Clean.
-/
import Derived.Test.YtaomecinemmdgaaRows
import Derived.Test.YtaomecinemmdgaaGBase
import Derived.Test.YtaomecinemmdgaaSTwinI
import Derived.Test.YtaomecinemmdgaaSFew
import Derived.Test.YtaomecinemmdgaaSBackL
set_option linter.unusedVariables false
set_option linter.unusedSimpArgs false
namespace Go.Proofs.Ytaomecinemmdgaa
open Go.RowKit Go.Lib
def cleanK (z : Int) : Nat := if 1 ≤ z ∧ z ≤ 34 then z.toNat else 4
def nN (k : Nat) : Nat := if k = 5 ∨ k = 7 ∨ k = 13 ∨ k = 17 ∨ k = 24 ∨ k = 32 ∨ k = 33 ∨ k = 34 ∨ k = 21 ∨ k = 30 then 1 else if k = 6 ∨ k = 22 then 2 else 0
def nS (k : Nat) : Nat := if k = 9 ∨ k = 18 ∨ k = 23 ∨ k = 34 then 1 else if k = 21 ∨ k = 30 then 2 else 0
def cleanN (k : Nat) (ns : List Int) : List Int := if k = 8 then (if ns.length < 4 then fewL ns 4 else ns) else fewL ns (nN k)
def cleanS (k : Nat) (ss : List ByteArray) : List ByteArray := if k = 3 ∨ k = 11 then ss else someL ss (nS k)
def cleanP (s : StepR) : StepR := ⟨cleanK s.kind, if cleanK s.kind = 1 ∨ cleanK s.kind = 12 then s.o else zero6, cleanN (cleanK s.kind) s.ns, cleanS (cleanK s.kind) s.ss⟩
theorem cleanK_in (z : Int) : 1 ≤ cleanK z ∧ cleanK z ≤ 34 := by unfold cleanK; split <;> omega
theorem shape_clean : ∀ k : Fin 35, 0 < k.val → ((shapeAt k.val).opts = decide (k.val = 1 ∨ k.val = 12)) ∧ ((k.val = 1 ∨ k.val = 12) → nN k.val = 0 ∧ nS k.val = 0) ∧ ((shapeAt k.val).more = 1 → k.val = 8 ∧ (shapeAt k.val).a = 4) ∧ ((shapeAt k.val).more = 2 → (k.val = 3 ∨ k.val = 11) ∧ (shapeAt k.val).a = 0) ∧
    (¬ (shapeAt k.val).more = 1 → k.val ≠ 8) ∧ (¬ (shapeAt k.val).more = 2 → ¬ (k.val = 3 ∨ k.val = 11)) ∧ (¬ (k.val = 1 ∨ k.val = 12) → ¬ (shapeAt k.val).more = 1 → (shapeAt k.val).a = nN k.val ∧ (¬ (shapeAt k.val).more = 2 → (shapeAt k.val).b = nS k.val)) := by decide
theorem fewL_in (l : List Int) (k : Nat) (h : ∀ z ∈ l, In64 z) : ∀ z ∈ fewL l k, In64 z := by
  intro z hz
  unfold fewL at hz
  obtain ⟨i, -, rfl⟩ := List.mem_map.1 hz
  rw [List.getD_eq_getElem?_getD]
  cases hi : l[i]? with
  | none => simp [In64]
  | some x => simp only [Option.getD_some]; exact h x (List.mem_of_getElem? hi)
theorem clean_clean (s : StepR) (h6 : s.o.length = 6) (hn : ∀ z ∈ s.ns, In64 z) (ho : ∀ z ∈ s.o, In64 z) : Clean (cleanP s) := by
  obtain ⟨h1, h2⟩ := cleanK_in s.kind
  refine ⟨cleanK s.kind, rfl, h1, h2, ?_, ?_, ?_, ?_⟩
  · unfold cleanP; dsimp only; split
    · exact h6
    · rfl
  · unfold cleanP cleanN; dsimp only
    split
    · split
      · exact fewL_in _ _ hn
      · exact hn
    · exact fewL_in _ _ hn
  · unfold cleanP; dsimp only; split
    · exact ho
    · intro z hz; simp [zero6] at hz; subst hz; simp [In64]
  · unfold cleanP
    generalize cleanK s.kind = k at *
    have ht := shape_clean ⟨k, by omega⟩ (show 0 < k by omega)
    dsimp only at ht ⊢
    obtain ⟨t1, t2, t3, t4, t5, t6, t7⟩ := ht
    by_cases hk : k = 1 ∨ k = 12
    · rw [t1, if_pos (by simpa using hk)]
      obtain ⟨e1, e2⟩ := t2 hk
      unfold cleanN cleanS
      rw [if_neg (by omega), if_neg (by omega), e1, e2]
      exact ⟨rfl, rfl⟩
    · rw [t1, if_neg (by simpa using hk)]
      refine ⟨by rw [if_neg hk], ?_⟩
      by_cases m1 : (shapeAt k).more = 1
      · rw [if_pos m1]
        obtain ⟨rfl, ha⟩ := t3 m1
        refine ⟨?_, rfl⟩
        rw [ha]; unfold cleanN; rw [if_pos rfl]
        split
        · rw [fewL_length]; exact Nat.le_refl _
        · omega
      · rw [if_neg m1]
        have hk8 := t5 m1
        obtain ⟨ta, tb⟩ := t7 hk m1
        refine ⟨by unfold cleanN; rw [if_neg hk8, fewL_length, ta], ?_⟩
        by_cases m2 : (shapeAt k).more = 2
        · rw [if_pos m2]; trivial
        · rw [if_neg m2, tb m2]
          unfold cleanS
          rw [if_neg (t6 m2), someL_length]
end Go.Proofs.Ytaomecinemmdgaa
