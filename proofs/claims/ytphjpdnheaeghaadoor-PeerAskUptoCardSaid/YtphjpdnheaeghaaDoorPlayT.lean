/-
  PLAIN WORDS of scripts: the shapes of the steps, and the text of a script.
-/
import Derived.Test.YtphjpdnheaeghaaDoorRows
import Derived.Test.YtphjpdnheaeghaaDoorWd
import Derived.Test.YtphjpdnheaeghaaDoorPlayP
set_option linter.unusedVariables false
set_option linter.unusedSimpArgs false
namespace Go.Proofs.YtphjpdnheaeghaaDoor
open Go.RowKit
/-- The shapes, from kind 1 on; that of kind 0 is empty. -/
def shapesT : List ShapeR := [⟨⟨#[]⟩, 0, 0, 0, false⟩,
  ⟨⟨#[99, 114, 101, 97, 116, 101]⟩, 0, 0, 0, true⟩,
  ⟨⟨#[111, 112, 101, 110]⟩, 0, 0, 0, false⟩,
  ⟨⟨#[97, 112, 112, 101, 110, 100]⟩, 0, 0, 2, false⟩,
  ⟨⟨#[115, 105, 122, 101]⟩, 0, 0, 0, false⟩,
  ⟨⟨#[108, 101, 97, 102]⟩, 1, 0, 0, false⟩,
  ⟨⟨#[108, 101, 97, 118, 101, 115]⟩, 2, 0, 0, false⟩,
  ⟨⟨#[114, 111, 111, 116]⟩, 1, 0, 0, false⟩,
  ⟨⟨#[112, 114, 111, 118, 101]⟩, 4, 0, 1, false⟩,
  ⟨⟨#[116, 105, 108, 101]⟩, 0, 1, 0, false⟩,
  ⟨⟨#[115, 121, 110, 99]⟩, 0, 0, 0, false⟩,
  ⟨⟨#[99, 104, 101, 99, 107, 112, 111, 105, 110, 116]⟩, 0, 0, 2, false⟩,
  ⟨⟨#[98, 101, 103, 105, 110]⟩, 0, 0, 0, true⟩,
  ⟨⟨#[109, 111, 118, 101]⟩, 1, 0, 0, false⟩,
  ⟨⟨#[99, 97, 110, 99, 101, 108]⟩, 0, 0, 0, false⟩,
  ⟨⟨#[115, 101, 101, 110]⟩, 0, 0, 0, false⟩,
  ⟨⟨#[117, 115, 97, 103, 101]⟩, 0, 0, 0, false⟩,
  ⟨⟨#[97, 114, 109]⟩, 1, 0, 0, false⟩,
  ⟨⟨#[99, 114, 97, 115, 104]⟩, 0, 1, 0, false⟩,
  ⟨⟨#[99, 104, 101, 99, 107]⟩, 0, 0, 0, false⟩,
  ⟨⟨#[114, 101, 112, 97, 105, 114]⟩, 0, 0, 0, false⟩,
  ⟨⟨#[115, 117, 98, 109, 105, 116]⟩, 1, 2, 0, false⟩,
  ⟨⟨#[112, 108, 97, 99, 101]⟩, 2, 0, 0, false⟩,
  ⟨⟨#[102, 105, 110, 100]⟩, 0, 1, 0, false⟩,
  ⟨⟨#[108, 97, 116, 101]⟩, 1, 0, 0, false⟩,
  ⟨⟨#[119, 105, 116, 110, 101, 115, 115]⟩, 0, 0, 0, false⟩,
  ⟨⟨#[119, 97, 116, 99, 104]⟩, 0, 0, 0, false⟩,
  ⟨⟨#[105, 109, 97, 103, 101]⟩, 0, 0, 0, false⟩,
  ⟨⟨#[115, 97, 118, 101]⟩, 0, 0, 0, false⟩,
  ⟨⟨#[114, 101, 115, 116, 111, 114, 101]⟩, 0, 0, 0, false⟩,
  ⟨⟨#[97, 115, 107]⟩, 1, 2, 0, false⟩,
  ⟨⟨#[109, 105, 114, 114, 111, 114]⟩, 0, 0, 0, false⟩,
  ⟨⟨#[115, 101, 114, 118, 101]⟩, 1, 0, 0, false⟩,
  ⟨⟨#[109, 97, 112]⟩, 1, 0, 0, false⟩,
  ⟨⟨#[108, 111, 111, 107]⟩, 1, 1, 0, false⟩]
theorem shapesT_len : shapesT.length = 35 := by decide
def shapeAt (k : Nat) : ShapeR := shapesT.getD k ⟨⟨#[]⟩, 0, 0, 0, false⟩
theorem shapeAt_all : ∀ k : Fin 35, ((shapeAt k.val).more = 1 → (shapeAt k.val).b = 0) ∧ (shapeAt k.val).more ≤ 2 ∧ ((shapeAt k.val).opts = true → (shapeAt k.val).b = 0 ∧ (shapeAt k.val).more ≠ 2) := by decide
theorem words_at (k : Nat) (hk : k < 35) (s : StepR) : wordsP (shapeAt k) s = wordsD (shapeAt k) s :=
  have h := shapeAt_all ⟨k, hk⟩
  words_eq _ s h.1 h.2.1 h.2.2
def joinSp : List ByteArray → List UInt8
  | [] => []
  | [x] => x.data.toList
  | x :: r => x.data.toList ++ 32 :: joinSp r
def spaced (l : List ByteArray) : List UInt8 := l.flatMap fun x => 32 :: x.data.toList
theorem joinSp_cons (x : ByteArray) : ∀ l : List ByteArray, joinSp (x :: l) = x.data.toList ++ spaced l
  | [] => by simp [joinSp, spaced]
  | y :: r => by
    rw [joinSp, joinSp_cons y r]
    · simp [spaced]
    · simp
/-- A step's line; empty where the kind is none. -/
def lineP (s : StepR) : List UInt8 := if 1 ≤ s.kind ∧ s.kind ≤ 34 then joinSp (wordsD (shapeAt s.kind.toNat) s) ++ [10] else []
def scriptL (l : List StepR) : List UInt8 := l.flatMap lineP
theorem scriptL_snoc (l : List StepR) (s : StepR) : scriptL (l ++ [s]) = scriptL l ++ lineP s := by unfold scriptL; rw [List.flatMap_append]; simp
end Go.Proofs.YtphjpdnheaeghaaDoor
