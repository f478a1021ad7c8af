/-
  THE PLAIN LAW behind NoteOnly: the good signatures and the others, merged by the note's lines, are the note back.
-/

import Derived.Test.YtnkkpfomoodmjaaGreatDoorSNoteP
import Derived.Test.YtnkkpfomoodmjaaGreatDoorGOp
set_option linter.unusedVariables false
set_option linter.unusedSimpArgs false
namespace Go.Proofs.YtnkkpfomoodmjaaGreatDoor
open Go.RowKit
theorem openG_pre (t : ByteArray) (ks : List KeyR) : ∀ (S a b g r : List SigR), openG t ks S a b = some (g, r) → (∃ g2, g = a ++ g2) ∧ ∃ r2, r = b ++ r2
  | [], a, b, g, r, h => by
    simp only [openG, Option.some.injEq, Prod.mk.injEq] at h; obtain ⟨rfl, rfl⟩ := h
    exact ⟨⟨[], by simp⟩, [], by simp⟩
  | x :: xs, a, b, g, r, h => by
    rw [openG] at h
    split at h
    · obtain ⟨⟨g2, e1⟩, r2, e2⟩ := openG_pre t ks xs _ _ _ _ h
      exact ⟨⟨g2, e1⟩, x :: r2, by rw [e2]; simp⟩
    · split at h
      · obtain ⟨⟨g2, e1⟩, r2, e2⟩ := openG_pre t ks xs _ _ _ _ h
        exact ⟨⟨x :: g2, by rw [e1]; simp⟩, r2, e2⟩
      · cases h
/-- Each good signature is a known key's for the text. -/
def Mine (t : ByteArray) (ks : List KeyR) (x : SigR) : Prop := ∃ k, ownerF ks x = some k ∧ x.mc = macB k.sc t
theorem openG_mine (t : ByteArray) (ks : List KeyR) : ∀ (S a b g r : List SigR), openG t ks S a b = some (g, r) → (∀ x ∈ a, Mine t ks x) → ∀ x ∈ g, Mine t ks x
  | [], a, b, g, r, h, ha => by
    simp only [openG, Option.some.injEq, Prod.mk.injEq] at h; obtain ⟨rfl, rfl⟩ := h
    exact ha
  | x :: xs, a, b, g, r, h, ha => by
    rw [openG] at h
    split at h
    · exact openG_mine t ks xs _ _ _ _ h ha
    · rename_i k hk
      split at h
      · rename_i hm
        refine openG_mine t ks xs _ _ _ _ h fun y hy => ?_
        rcases List.mem_append.1 hy with hy | hy
        · exact ha y hy
        · rw [List.mem_singleton.1 hy]; exact ⟨k, hk, hm⟩
      · cases h
/-- A key that is known to have signed it. -/
theorem Mine.key {t : ByteArray} {ks : List KeyR} {x : SigR} (h : Mine t ks x) : ∃ i, ∃ hi : i < ks.length, ks[i].nm = x.nm ∧ kidB ks[i] = x.id ∧ macB ks[i].sc t = x.mc := by
  obtain ⟨k, hk, hm⟩ := h
  unfold ownerF at hk
  have h1 := List.find?_some hk
  obtain ⟨i, hi, e⟩ := List.mem_iff_getElem.1 (List.mem_of_find?_eq_some hk)
  refine ⟨i, hi, ?_⟩
  rw [e]
  unfold ofKey at h1
  simp only [Bool.and_eq_true, decide_eq_true_eq] at h1
  exact ⟨h1.1.2, h1.2, hm.symm⟩
/-- How far the merging is: k lines, i of them good ones, j others. -/
def MergAt (t : ByteArray) (ks : List KeyR) (S g r : List SigR) (k i j : Nat) : Prop :=
  k ≤ S.length ∧ i ≤ g.length ∧ j ≤ r.length ∧ openG t ks (S.drop k) (g.take i) (r.take j) = some (g, r)
theorem MergAt.start {t : ByteArray} {ks : List KeyR} {S g r : List SigR} (h : openG t ks S [] [] = some (g, r)) : MergAt t ks S g r 0 0 0 :=
  ⟨Nat.zero_le _, Nat.zero_le _, Nat.zero_le _, h⟩
theorem MergAt.done {t : ByteArray} {ks : List KeyR} {S g r : List SigR} {k i j : Nat} (h : MergAt t ks S g r k i j) (hk : ¬ k < S.length) : ¬ i < g.length ∧ ¬ j < r.length := by
  obtain ⟨h1, h2, h3, h4⟩ := h
  rw [List.drop_of_length_le (by omega)] at h4
  simp only [openG, Option.some.injEq, Prod.mk.injEq] at h4
  have e1 := congrArg List.length h4.1
  have e2 := congrArg List.length h4.2
  simp only [List.length_take] at e1 e2
  omega
theorem take_more {α : Type} {l l2 : List α} {i : Nat} {x : α} (h : l = (l.take i ++ [x]) ++ l2) (hi : i ≤ l.length) : ∃ hi : i < l.length, l[i] = x ∧ l.take (i + 1) = l.take i ++ [x] := by
  have hl : (l.take i).length = i := by rw [List.length_take]; omega
  have e := congrArg List.length h
  simp only [List.length_append, List.length_cons, List.length_nil, hl] at e
  have hi' : i < l.length := by omega
  have e2 : l.take (i + 1) = l.take i ++ [x] := by
    have h2 := congrArg (List.take (i + 1)) h
    rw [h2, List.take_append_of_le_length (by simp [hl]), List.take_of_length_le (by simp [hl])]
  refine ⟨hi', ?_, e2⟩
  have h3 := List.take_succ_eq_append_getElem hi'
  rw [h3] at e2
  have := List.append_cancel_left e2
  injection this
/-- The next line: a good one, or another, which is none of the good ones. -/
theorem MergAt.step {t : ByteArray} {ks : List KeyR} {S g r : List SigR} {k i j : Nat} (h : MergAt t ks S g r k i j) (hk : k < S.length) (hG : ∀ x ∈ g, Mine t ks x) :
    (∃ hi : i < g.length, g[i] = S[k] ∧ MergAt t ks S g r (k + 1) (i + 1) j) ∨ ∃ hj : j < r.length, r[j] = S[k] ∧ S[k] ∉ g ∧ MergAt t ks S g r (k + 1) i (j + 1) := by
  obtain ⟨h1, h2, h3, h4⟩ := h
  rw [List.drop_eq_getElem_cons hk, openG] at h4
  split at h4
  · rename_i ho
    obtain ⟨-, r2, e⟩ := openG_pre t ks _ _ _ _ _ h4
    obtain ⟨hj, e1, e2⟩ := take_more e h3
    exact .inr ⟨hj, e1, (fun hm => by obtain ⟨q, hq, -⟩ := hG _ hm; rw [ho] at hq; cases hq), by omega, h2, by omega, by rw [e2]; exact h4⟩
  · rename_i q hq
    split at h4
    · obtain ⟨⟨g2, e⟩, -⟩ := openG_pre t ks _ _ _ _ _ h4
      obtain ⟨hi, e1, e2⟩ := take_more e h2
      exact .inl ⟨hi, e1, by omega, by omega, h3, by rw [e2]; exact h4⟩
    · cases h4
/-- A line's end is where the first newline stands. -/
theorem first_unique : ∀ {a b u v : List UInt8}, (10 : UInt8) ∉ a → (10 : UInt8) ∉ b → a ++ 10 :: u = b ++ 10 :: v → a = b ∧ u = v
  | [], [], u, v, _, _, h => ⟨rfl, by injection h⟩
  | [], y :: b, u, v, _, hb, h => by
    injection h with h1 _
    exact absurd (by rw [h1]; exact List.mem_cons_self) hb
  | x :: a, [], u, v, ha, _, h => by
    injection h with h1 _
    exact absurd (by rw [← h1]; exact List.mem_cons_self) ha
  | x :: a, y :: b, u, v, ha, hb, h => by
    injection h with h1 h2
    obtain ⟨e1, e2⟩ := first_unique (fun hm => ha (List.mem_cons_of_mem _ hm)) (fun hm => hb (List.mem_cons_of_mem _ hm)) h2
    exact ⟨by rw [h1, e1], e2⟩
/-- The note's lines. -/
theorem writL_at (t : ByteArray) (S : List SigR) (k : Nat) (hk : k < S.length) : ∃ u, writL t S = writL t (S.take k) ++ (lineL S[k] ++ 10 :: u) := by
  refine ⟨joinL ((S.drop (k + 1)).map lineL), ?_⟩
  rw [writL_join, writL_join]
  have e : S = S.take k ++ S[k] :: S.drop (k + 1) := by rw [← List.drop_eq_getElem_cons hk, List.take_append_drop]
  conv => lhs; rw [e]
  rw [List.map_append, joinL_app, List.map_cons, joinL_cons]
  simp
theorem writB_next (t : ByteArray) (S : List SigR) (k : Nat) (hk : k < S.length) : writB t (S.take (k + 1)) = writB t (S.take k) ++ sigLine S[k] := by
  apply ByteArray.ext; apply Array.ext'
  rw [ByteArray.data_append, Array.toList_append, sigLine_list]
  show writL t (S.take (k + 1)) = writL t (S.take k) ++ _
  rw [writL_join, writL_join, List.take_succ_eq_append_getElem hk, List.map_append, joinL_app]
  simp [joinL]
theorem take_drop_app (a b : List UInt8) (m : Nat) : ((a ++ b).take (a.length + m)).drop a.length = b.take m := by
  rw [List.take_append, List.take_of_length_le (by omega), List.drop_left, Nat.add_sub_cancel_left]
/-- What the code asks of a line: does the note go on with it? -/
def goesOn (b : ByteArray) (n : Nat) (x : SigR) : Bool := decide (n + (sigLine x).size ≤ b.size) && decide ((b.extract n (n + (sigLine x).size)) = sigLine x)
theorem sigLine_lineL (x : SigR) : (sigLine x).size = (lineL x ++ [10]).length := by rw [← sigLine_list]; rfl
theorem goesOn_iff (t : ByteArray) (S : List SigR) (k : Nat) (hk : k < S.length) (x : SigR) (hn : nameOk x.nm = true) (ho : SigOk x) (hS : ∀ y ∈ S, nameOk y.nm = true ∧ SigOk y) :
    goesOn (writB t S) (writB t (S.take k)).size x = true ↔ x = S[k] := by
  obtain ⟨u, hu⟩ := writL_at t S k hk
  have hb : writB t S = bsL (writL t (S.take k) ++ (lineL S[k] ++ 10 :: u)) := by rw [← hu]; rfl
  have hz : (writB t (S.take k)).size = (writL t (S.take k)).length := by show (writL t (S.take k)).toArray.size = _; rw [List.size_toArray]
  have hx : sigLine x = bsL (lineL x ++ [10]) := by rw [← sigLine_list, bsL_toList]
  have hyk := hS _ (List.getElem_mem hk)
  have key : ∀ m, ((writL t (S.take k) ++ (lineL S[k] ++ 10 :: u)).take ((writL t (S.take k)).length + m)).drop (writL t (S.take k)).length = (lineL S[k] ++ 10 :: u).take m := fun m => take_drop_app _ _ m
  unfold goesOn
  simp only [Bool.and_eq_true, decide_eq_true_eq]
  rw [hz, sigLine_lineL]
  constructor
  · rintro ⟨-, h2⟩
    rw [hb, bsL_extract, hx, key] at h2
    have h3 : (lineL S[k] ++ 10 :: u).take (lineL x ++ [10]).length = lineL x ++ [10] := by
      have := congrArg (fun z : ByteArray => z.data.toList) h2
      exact this
    have h4 : lineL S[k] ++ 10 :: u = lineL x ++ 10 :: (lineL S[k] ++ 10 :: u).drop (lineL x ++ [10]).length := by
      conv => lhs; rw [← List.take_append_drop (lineL x ++ [10]).length (lineL S[k] ++ 10 :: u), h3]
      simp
    have e := (first_unique (lineL_free hyk.1).2 (lineL_free hn).2 h4).1
    have p1 := sigP_line hn ho
    have p2 := sigP_line hyk.1 hyk.2
    rw [e] at p2
    exact Option.some.inj (p1.symm.trans p2)
  · rintro rfl
    rw [hb, bsL_size, bsL_extract, hx, key]
    refine ⟨by simp only [List.length_append, List.length_cons, List.length_nil]; omega, ?_⟩
    rw [show lineL S[k] ++ 10 :: u = (lineL S[k] ++ [10]) ++ u from by simp, List.take_left]
/-- What Open takes apart. -/
theorem openV_form {note : ByteArray} {ks : List KeyR} {t : ByteArray} {g r : List SigR} (h : openV note ks = .ok (t, g, r)) :
    ∃ S, note = writB t S ∧ openG t ks S [] [] = some (g, r) ∧ (∀ x ∈ S, nameOk x.nm = true ∧ SigOk x) ∧ S.length ≤ 16 ∧ g.length ≠ 0 ∧ note.size ≤ 65536 := by
  unfold openV at h
  split at h
  · cases h
  · rename_i hz
    split at h
    · cases h
    · rename_i t1 S hr
      split at h
      · cases h
      · rename_i g1 r1 ho
        split at h
        · cases h
        · rename_i hg
          injection h with h
          injection h with h1 h2
          injection h2 with h2 h3
          subst h1; subst h2; subst h3
          obtain ⟨e, -, hS, -, -, h16⟩ := read_only hr
          exact ⟨S, e, ho, hS, h16, hg, by omega⟩
end Go.Proofs.YtnkkpfomoodmjaaGreatDoor
