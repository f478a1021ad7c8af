/-
  PLAIN LAWS: a step read from its words; a script read line by line.
-/
import Derived.Test.YtaomecinemmdgaaRows
import Derived.Test.YtaomecinemmdgaaGBase
import Derived.Test.YtaomecinemmdgaaGDecs
import Derived.Test.YtaomecinemmdgaaSPlayT
import Derived.Test.YtaomecinemmdgaaSTWords
set_option linter.unusedVariables false
namespace Go.Proofs.Ytaomecinemmdgaa
open Go.RowKit Go.Lib
/-- The kind of a word, sought from k on. -/
def kindFrom (w : ByteArray) : Nat → Nat → Nat
  | 0, _ => 0
  | f + 1, k => if 0 < k ∧ (shapeAt k).wd = w then k else kindFrom w f (k + 1)
def kindP (w : ByteArray) : Nat := kindFrom w 34 1
theorem kindFrom_0 (w : ByteArray) : kindFrom w 35 0 = kindP w := by
  show (if 0 < 0 ∧ (shapeAt 0).wd = w then 0 else kindFrom w 34 1) = _
  rw [if_neg (by omega)]; rfl
theorem kindFrom_le (w : ByteArray) : ∀ f k, kindFrom w f k = 0 ∨ (k ≤ kindFrom w f k ∧ kindFrom w f k < k + f ∧ 0 < kindFrom w f k ∧ (shapeAt (kindFrom w f k)).wd = w)
  | 0, k => .inl rfl
  | f + 1, k => by
    rw [kindFrom]
    split
    · rename_i h; exact .inr ⟨Nat.le_refl _, by omega, h.1, h.2⟩
    · rcases kindFrom_le w f (k + 1) with h | h
      · exact .inl h
      · exact .inr ⟨by omega, by omega, h.2.2.1, h.2.2.2⟩
theorem kindP_le (w : ByteArray) : kindP w ≤ 34 := by
  rcases kindFrom_le w 34 1 with h | h <;> unfold kindP <;> omega
/-- Words as numbers, all or none. -/
def numsO : List ByteArray → Option (List Int)
  | [] => some []
  | x :: r => match undV x with
    | none => none
    | some z => (numsO r).map (z :: ·)
theorem numsO_len : ∀ {l : List ByteArray} {ns : List Int}, numsO l = some ns → ns.length = l.length
  | [], ns, h => by simp [numsO] at h; subst h; rfl
  | x :: r, ns, h => by
    unfold numsO at h
    split at h
    · cases h
    · obtain ⟨u, hu, rfl⟩ := Option.map_eq_some_iff.1 h
      have := numsO_len hu
      simp [this]
/-- How many words behind the first a shape takes as numbers, when there are so many. -/
def numN (F : ShapeR) (n : Nat) : Nat := if F.more = 1 then n - F.b else if F.opts = true then 6 else F.a
/-- Can a shape have so many words? -/
def fits (F : ShapeR) (n : Nat) : Bool := decide ((if F.opts = true then 6 else F.a) + F.b ≤ n) && (decide (n ≤ (if F.opts = true then 6 else F.a) + F.b) || decide (F.more ≠ 0))
def zero6 : List Int := [0, 0, 0, 0, 0, 0]
/-- A step read; else its refusal. -/
def stepO (ws : List ByteArray) : Nat ⊕ StepR :=
  let k := kindP (ws.headD ⟨#[]⟩)
  if k = 0 then .inl 300 else
  if fits (shapeAt k) (ws.length - 1) = false then .inl 300 else
  match numsO ((ws.drop 1).take (numN (shapeAt k) (ws.length - 1))) with
  | none => .inl 42
  | some ns => .inr ⟨k, if (shapeAt k).opts = true then ns else zero6, if (shapeAt k).opts = true then [] else ns, ws.drop (1 + numN (shapeAt k) (ws.length - 1))⟩
/-- The lines of a script. -/
def linL (l : List UInt8) : List (List UInt8) := if (splL 10 l).getLast (splL_ne 10 l) = [] then (splL 10 l).dropLast else splL 10 l
/-- A script read from its lines. -/
def decF : List (List UInt8) → Nat → List StepR → List StepR × Nat × Nat
  | [], _, acc => (acc, 0, 0)
  | l :: r, n, acc => if l = [] ∨ l.head? = some 35 then decF r (n + 1) acc else
    match wdsL (bsL l) with
    | none => ([], n, 44)
    | some ws => match stepO ws with
      | .inl c => ([], n, c)
      | .inr s => decF r (n + 1) (acc ++ [s])
def decO (t : ByteArray) : List StepR × Nat × Nat := decF (linL t.data.toList) 1 []
theorem wdsL_ne {l : List UInt8} {ws : List ByteArray} (h : l ≠ []) (hw : wdsL (bsL l) = some ws) : ws ≠ [] := by
  unfold wdsL at hw
  rw [if_neg (fun e => h (by have := congrArg (fun b : ByteArray => b.data.toList) e; exact this))] at hw
  have h1 := wlO_len hw
  rw [List.length_map] at h1
  have h2 : 0 < (splL 32 (bsL l).data.toList).length := List.length_pos_iff.2 (splL_ne 32 _)
  intro e
  rw [e] at h1
  simp only [List.length_nil] at h1
  omega
/-- The shapes' table as it is. -/
theorem shape_tab : ∀ k : Fin 35, ((shapeAt k.val).opts = true → (shapeAt k.val).a = 0 ∧ (shapeAt k.val).b = 0 ∧ (shapeAt k.val).more = 0) ∧ ((shapeAt k.val).more = 1 → (shapeAt k.val).b = 0) ∧ ((shapeAt k.val).more = 2 → (shapeAt k.val).a = 0 ∧ (shapeAt k.val).b = 0) ∧ (shapeAt k.val).more ≤ 2 ∧ (shapeAt k.val).a ≤ 4 ∧ (shapeAt k.val).b ≤ 2 := by decide
end Go.Proofs.Ytaomecinemmdgaa
