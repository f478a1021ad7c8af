/-
  PLAIN LAWS of scripts: a word escaped; the words of a step, as the program gathers them and as the document counts them.
-/
import Derived.Test.YtphjpdnheaeghaaDoorRows
import Derived.Test.YtphjpdnheaeghaaDoorWd
import Derived.Test.YtphjpdnheaeghaaDoorDec
set_option linter.unusedVariables false
set_option linter.unusedSimpArgs false
namespace Go.Proofs.YtphjpdnheaeghaaDoor
open Go.RowKit
def hexS : ByteArray := ⟨#[48, 49, 50, 51, 52, 53, 54, 55, 56, 57, 65, 66, 67, 68, 69, 70]⟩
def hexB (v : Nat) : UInt8 := hexS.data.getD v 0
/-- A byte, escaped if it must be. -/
def escB (c : UInt8) : List UInt8 := if 32 < c.toNat ∧ c.toNat < 127 ∧ c ≠ 37 then [c] else [37, hexB (c.toNat / 16), hexB (c.toNat % 16)]
def escL (l : List UInt8) : List UInt8 := if l = [] then [37] else l.flatMap escB
def escS (s : ByteArray) : ByteArray := ⟨(escL s.data.toList).toArray⟩
theorem escB_len (c : UInt8) : 1 ≤ (escB c).length ∧ (escB c).length ≤ 3 := by unfold escB; split <;> simp
theorem escL_len : ∀ l : List UInt8, (l.flatMap escB).length ≤ 3 * l.length
  | [] => by simp
  | c :: r => by
    have h1 := escB_len c
    have h2 := escL_len r
    rw [List.flatMap_cons, List.length_append, List.length_cons]; omega
theorem escS_size (s : ByteArray) : (escS s).size ≤ 3 * s.size + 1 := by
  show (escL s.data.toList).toArray.size ≤ _
  rw [List.size_toArray]
  unfold escL
  have hl : s.data.toList.length = s.size := Array.length_toList
  split
  · simp
  · have := escL_len s.data.toList
    omega
/-- A step, as its parts. -/
structure StepR where
  kind : Int
  o : List Int
  ns : List Int
  ss : List ByteArray
/-- What a shape says: its word, how many numbers and texts, what may come more (1: numbers, 2: texts), whether options. -/
structure ShapeR where
  wd : ByteArray
  a : Nat
  b : Nat
  more : Nat
  opts : Bool
def wantsL (f : ShapeR) : List UInt8 := if f.opts = true then [111] else List.replicate f.a 110 ++ List.replicate f.b 115 ++ (if f.more = 1 then [78] else if f.more = 2 then [83] else [])
def numS (l : List Int) (i : Nat) : ByteArray := decS (l.getD i 0)
def txtS (l : List ByteArray) (i : Nat) : ByteArray := escS (l.getD i ⟨#[]⟩)
/-- The program's way: sign by sign. -/
def stepW (s : StepR) (st : Nat × Nat × List ByteArray) (c : UInt8) : Nat × Nat × List ByteArray :=
  if c = 110 then (st.1 + 1, st.2.1, st.2.2 ++ [numS s.ns st.1])
  else if c = 115 then (st.1, st.2.1 + 1, st.2.2 ++ [txtS s.ss st.2.1])
  else if c = 111 then (st.1, st.2.1, st.2.2 ++ s.o.map decS)
  else if c = 78 then (max st.1 s.ns.length, st.2.1, st.2.2 ++ (s.ns.drop st.1).map decS)
  else if c = 83 then (st.1, max st.2.1 s.ss.length, st.2.2 ++ (s.ss.drop st.2.1).map escS)
  else st
def wordsP (f : ShapeR) (s : StepR) : List ByteArray := ((wantsL f).foldl (stepW s) (0, 0, [f.wd])).2.2
/-- The document's way: so many numbers, so many texts. -/
def cntN (f : ShapeR) (s : StepR) : Nat := if f.more = 1 ∧ f.a < s.ns.length then s.ns.length else f.a
def cntS (f : ShapeR) (s : StepR) : Nat := if f.more = 2 ∧ f.b < s.ss.length then s.ss.length else f.b
def wordsD (f : ShapeR) (s : StepR) : List ByteArray :=
  f.wd :: ((if f.opts = true then s.o.map decS else (List.range (cntN f s)).map (numS s.ns)) ++ (List.range (cntS f s)).map (txtS s.ss))
theorem fold_n (s : StepR) : ∀ (k i t : Nat) (out : List ByteArray), (List.replicate k 110).foldl (stepW s) (i, t, out) = (i + k, t, out ++ (List.range k).map (fun j => numS s.ns (i + j)))
  | 0, i, t, out => by simp
  | k + 1, i, t, out => by
    have e : stepW s (i, t, out) 110 = (i + 1, t, out ++ [numS s.ns i]) := rfl
    rw [List.replicate_succ, List.foldl_cons, e, fold_n s k, List.range_succ_eq_map, List.map_cons, List.map_map]
    have h : (List.range k).map (fun j => numS s.ns (i + 1 + j)) = (List.range k).map ((fun j => numS s.ns (i + j)) ∘ Nat.succ) := List.map_congr_left fun j _ => by simp only [Function.comp]; rw [show i + 1 + j = i + j.succ from by omega]
    rw [h, List.append_assoc, show i + 1 + k = i + (k + 1) from by omega]
    rfl
theorem fold_s (s : StepR) : ∀ (k i t : Nat) (out : List ByteArray), (List.replicate k 115).foldl (stepW s) (i, t, out) = (i, t + k, out ++ (List.range k).map (fun j => txtS s.ss (t + j)))
  | 0, i, t, out => by simp
  | k + 1, i, t, out => by
    have e : stepW s (i, t, out) 115 = (i, t + 1, out ++ [txtS s.ss t]) := rfl
    rw [List.replicate_succ, List.foldl_cons, e, fold_s s k, List.range_succ_eq_map, List.map_cons, List.map_map]
    have h : (List.range k).map (fun j => txtS s.ss (t + 1 + j)) = (List.range k).map ((fun j => txtS s.ss (t + j)) ∘ Nat.succ) := List.map_congr_left fun j _ => by simp only [Function.comp]; rw [show t + 1 + j = t + j.succ from by omega]
    rw [h, List.append_assoc, show t + 1 + k = t + (k + 1) from by omega]
    rfl
/-- So many, and those behind: all. -/
theorem range_drop {α : Type} (g : Nat → ByteArray) (h : α → ByteArray) (l : List α) (a : Nat) (hg : ∀ j (hj : j < l.length), g j = h l[j]) : (List.range a).map g ++ (l.drop a).map h = (List.range (if a < l.length then l.length else a)).map g := by
  apply List.ext_getElem
  · simp only [List.length_append, List.length_map, List.length_range, List.length_drop]; split <;> omega
  · intro i h1 h2
    simp only [List.length_append, List.length_map, List.length_range, List.length_drop] at h1
    rw [List.getElem_map, List.getElem_range]
    by_cases hi : i < a
    · rw [List.getElem_append_left (by simp; exact hi), List.getElem_map, List.getElem_range]
    · rw [List.getElem_append_right (by simp; omega), List.getElem_map, List.getElem_drop]
      simp only [List.length_map, List.length_range]
      rw [hg i (by omega)]
      congr 2
      omega
theorem words_eq (f : ShapeR) (s : StepR) (h1 : f.more = 1 → f.b = 0) (h2 : f.more ≤ 2) (h3 : f.opts = true → f.b = 0 ∧ f.more ≠ 2) : wordsP f s = wordsD f s := by
  unfold wordsP wordsD wantsL
  by_cases ho : f.opts = true
  · obtain ⟨hb, hm⟩ := h3 ho
    rw [if_pos ho, if_pos ho]
    have hc : cntS f s = 0 := by unfold cntS; rw [if_neg (by omega)]; exact hb
    rw [hc]
    show ([f.wd] ++ s.o.map decS) = _
    simp
  · rw [if_neg ho, if_neg ho, List.foldl_append, List.foldl_append, fold_n, fold_s]
    simp only [Nat.zero_add]
    have e0 : (List.range f.a).map (fun j => numS s.ns j) = (List.range f.a).map (numS s.ns) := rfl
    have e1 : (List.range f.b).map (fun j => txtS s.ss j) = (List.range f.b).map (txtS s.ss) := rfl
    rw [e0, e1]
    by_cases m1 : f.more = 1
    · have hb := h1 m1
      rw [if_pos m1, hb]
      have hcs : cntS f s = 0 := by unfold cntS; rw [if_neg (by omega)]; exact hb
      have hcn : cntN f s = if f.a < s.ns.length then s.ns.length else f.a := by unfold cntN; by_cases h : f.a < s.ns.length <;> simp [m1, h]
      rw [hcs, hcn, ← range_drop (numS s.ns) decS s.ns f.a (fun j hj => by unfold numS; rw [List.getD_eq_getElem?_getD, List.getElem?_eq_getElem hj]; rfl)]
      show (([f.wd] ++ (List.range f.a).map (numS s.ns)) ++ (List.range 0).map (txtS s.ss)) ++ (s.ns.drop f.a).map decS = _
      simp
    · rw [if_neg m1]
      have hcn : cntN f s = f.a := by unfold cntN; rw [if_neg (by omega)]
      rw [hcn]
      by_cases m2 : f.more = 2
      · rw [if_pos m2]
        have hcs : cntS f s = if f.b < s.ss.length then s.ss.length else f.b := by unfold cntS; by_cases h : f.b < s.ss.length <;> simp [m2, h]
        rw [hcs, ← range_drop (txtS s.ss) escS s.ss f.b (fun j hj => by unfold txtS; rw [List.getD_eq_getElem?_getD, List.getElem?_eq_getElem hj]; rfl)]
        show (([f.wd] ++ (List.range f.a).map (numS s.ns)) ++ (List.range f.b).map (txtS s.ss)) ++ (s.ss.drop f.b).map escS = _
        simp
      · rw [if_neg m2]
        have hcs : cntS f s = f.b := by unfold cntS; rw [if_neg (by omega)]
        rw [hcs]
        show (([f.wd] ++ (List.range f.a).map (numS s.ns)) ++ (List.range f.b).map (txtS s.ss)) = _
        simp
end Go.Proofs.YtphjpdnheaeghaaDoor
