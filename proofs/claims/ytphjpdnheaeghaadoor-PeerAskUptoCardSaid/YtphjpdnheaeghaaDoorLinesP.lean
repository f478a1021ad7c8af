/-
  THE PLAIN LAW of a text parted into lines.
-/
import Derived.Test.YtphjpdnheaeghaaDoorRows
import Derived.Test.YtphjpdnheaeghaaDoorWd
set_option linter.unusedVariables false
set_option linter.unusedSimpArgs false
namespace Go.Proofs.YtphjpdnheaeghaaDoor
open Go.RowKit
/-- A row parted at each c. -/
def splL (c : UInt8) : List UInt8 → List (List UInt8)
  | [] => [[]]
  | x :: r => if x = c then [] :: splL c r else match splL c r with
    | h :: t => (x :: h) :: t
    | [] => [[x]]
theorem splL_ne (c : UInt8) : ∀ l, splL c l ≠ []
  | [] => by simp [splL]
  | x :: r => by
    simp only [splL]
    split
    · simp
    · split <;> simp
theorem splL_free (c : UInt8) : ∀ a : List UInt8, c ∉ a → splL c a = [a]
  | [], _ => rfl
  | x :: r, h => by
    have h1 : ¬ x = c := fun e => h (by simp [e])
    have h2 : c ∉ r := fun e => h (by simp [e])
    simp only [splL, if_neg h1, splL_free c r h2]
theorem splL_at (c : UInt8) : ∀ a b : List UInt8, c ∉ a → splL c (a ++ c :: b) = a :: splL c b
  | [], b, _ => by simp [splL]
  | x :: r, b, h => by
    have h1 : ¬ x = c := fun e => h (by simp [e])
    have h2 : c ∉ r := fun e => h (by simp [e])
    simp only [List.cons_append, splL, if_neg h1, splL_at c r b h2]
theorem splL_last (c : UInt8) : ∀ l : List UInt8, splL c (l ++ [c]) = splL c l ++ [[]]
  | [] => by simp [splL]
  | x :: r => by
    have ih := splL_last c r
    have hn := splL_ne c r
    simp only [List.cons_append, splL, ih]
    split
    · rfl
    · cases h : splL c r with
      | nil => exact absurd h hn
      | cons y t => rfl
/-- What lies between two places. -/
def segL (l : List UInt8) (a b : Nat) : List UInt8 := (l.drop a).take (b - a)
theorem splL_step (c : UInt8) (l : List UInt8) (a b : Nat) (hab : a ≤ b) (hb : b < l.length) (hc : l[b] = c) (hf : ∀ j (hj : j < l.length), a ≤ j → j < b → l[j] ≠ c) :
    splL c (l.drop a) = segL l a b :: splL c (l.drop (b + 1)) := by
  have e : l.drop a = segL l a b ++ c :: l.drop (b + 1) := by
    have h1 : l.drop a = (l.drop a).take (b - a) ++ (l.drop a).drop (b - a) := (List.take_append_drop _ _).symm
    rw [List.drop_drop, show a + (b - a) = b from by omega, List.drop_eq_getElem_cons hb, hc] at h1
    exact h1
  rw [e, splL_at]
  intro hm
  obtain ⟨j, hj, hx⟩ := List.mem_iff_getElem.1 hm
  unfold segL at hj hx
  rw [List.getElem_take, List.getElem_drop] at hx
  rw [List.length_take, List.length_drop] at hj
  exact hf (a + j) (by omega) (by omega) (by omega) hx
theorem splL_end (c : UInt8) (l : List UInt8) (a : Nat) (hf : ∀ j (hj : j < l.length), a ≤ j → l[j] ≠ c) : splL c (l.drop a) = [l.drop a] := by
  refine splL_free c _ fun hm => ?_
  obtain ⟨j, hj, hx⟩ := List.mem_iff_getElem.1 hm
  rw [List.getElem_drop] at hx
  rw [List.length_drop] at hj
  exact hf (a + j) (by omega) (by omega) hx
theorem splL_length (c : UInt8) : ∀ l : List UInt8, (splL c l).length ≤ l.length + 1
  | [] => by simp [splL]
  | x :: r => by
    have ih := splL_length c r
    simp only [splL]
    split
    · simp; omega
    · cases h : splL c r with
      | nil => simp
      | cons y t => rw [h] at ih; simp at ih ⊢; omega
theorem splL_join (c : UInt8) : ∀ l : List UInt8, (splL c l).flatMap (fun x => x ++ [c]) = l ++ [c]
  | [] => by simp [splL]
  | x :: r => by
    have ih := splL_join c r
    have hn := splL_ne c r
    simp only [splL]
    split
    · rename_i h; subst h; simp [ih]
    · cases h : splL c r with
      | nil => exact absurd h hn
      | cons y t => rw [h] at ih; simp at ih ⊢; exact ih
theorem splL_mem (c : UInt8) (l x : List UInt8) (h : x ∈ splL c l) : x.length ≤ l.length := by
  have hj := congrArg List.length (splL_join c l)
  obtain ⟨s, t, e⟩ := List.append_of_mem h
  rw [e] at hj
  simp at hj
  omega
def bsL (l : List UInt8) : ByteArray := ⟨l.toArray⟩
/-- The lines of a text; none: it does not end with a newline. -/
def linesV (s : ByteArray) : Option (List ByteArray) :=
  if s.size = 0 then some [] else if s.data.toList.getLast? = some 10 then some ((splL 10 s.data.toList.dropLast).map bsL) else none
theorem linesV_some (l : List UInt8) : linesV (bsL (l ++ [10])) = some ((splL 10 l).map bsL) := by
  unfold linesV
  rw [if_neg (by simp [bsL, ByteArray.size])]
  simp [bsL]
/-- The document's way: what lies behind the last newline is told by its length. -/
theorem linesV_parts (s : ByteArray) (from_ : Nat) (out : List (List UInt8)) (hf : from_ ≤ s.size) (h : splL 10 s.data.toList = out ++ [s.data.toList.drop from_]) :
    linesV s = if from_ < s.size then none else some (out.map bsL) := by
  have hl : s.data.toList.length = s.size := Array.length_toList
  generalize hL : s.data.toList = L at *
  rcases Nat.lt_or_ge from_ s.size with hlt | hge
  · rw [if_pos hlt]
    unfold linesV
    rw [if_neg (by omega), hL, if_neg]
    intro e
    obtain ⟨r, hr⟩ := List.getLast?_eq_some_iff.1 e
    rw [hr, splL_last] at h
    have h2 := congrArg (fun l => l.map List.length) (List.append_inj_right' h rfl)
    rw [← hr] at h2
    simp at h2
    omega
  · rw [if_neg (by omega)]
    have h3 : L.drop from_ = [] := List.drop_eq_nil_of_le (by omega)
    rw [h3] at h
    unfold linesV
    rcases Nat.eq_zero_or_pos s.size with h0 | h0
    · rw [if_pos h0]
      have : L = [] := List.eq_nil_of_length_eq_zero (by omega)
      rw [this] at h
      have e : out = [] := by
        cases out with
        | nil => rfl
        | cons y t => have := congrArg List.length h; simp [splL] at this
      rw [e]; rfl
    · rw [if_neg (by omega), hL]
      have hne : L ≠ [] := fun e => by rw [e] at hl; simp at hl; omega
      have hd : L = L.dropLast ++ [L.getLast hne] := (List.dropLast_concat_getLast hne).symm
      have hlast : L.getLast hne = 10 := by
        have hj := splL_join 10 L
        rw [h] at hj
        simp only [List.flatMap_append, List.flatMap_cons, List.flatMap_nil, List.nil_append, List.append_nil] at hj
        have hj2 := List.append_inj_left' hj rfl
        cases ho : out.reverse with
        | nil =>
          rw [List.reverse_eq_nil_iff] at ho
          rw [ho] at hj2
          exact absurd hj2.symm hne
        | cons y t =>
          have : out = t.reverse ++ [y] := by rw [← List.reverse_reverse out, ho, List.reverse_cons]
          rw [this] at hj2
          simp only [List.flatMap_append, List.flatMap_cons, List.flatMap_nil, List.append_nil] at hj2
          rw [← List.append_assoc] at hj2
          have := congrArg List.getLast? hj2
          rw [List.getLast?_concat, List.getLast?_eq_some_getLast hne] at this
          injection this with this
          exact this.symm
      rw [hlast] at hd
      have hg : L.getLast? = some 10 := by rw [hd, List.getLast?_concat]
      rw [if_pos hg]
      rw [hd, splL_last] at h
      rw [List.append_inj_left' h rfl]
end Go.Proofs.YtphjpdnheaeghaaDoor
