/-
  THE PLAIN LAW of a list's root: how it is split, and the halves as slices.
-/
import Derived.Test.YtmkecanibedahaaDoorRows
import Derived.Test.YtmkecanibedahaaDoorWd
import Derived.Test.YtmkecanibedahaaDoorStrRow
import Derived.Test.YtmkecanibedahaaDoorCut
set_option linter.unusedVariables false
set_option linter.unusedSimpArgs false
namespace Go.Proofs.YtmkecanibedahaaDoor
open Go.RowKit Go.Lib
/-- The greatest power of two below n. -/
def splitF : Nat → Nat → Nat → Nat
  | 0, k, _ => k
  | f + 1, k, n => if 2 * k < n then splitF f (2 * k) n else k
def splitN (n : Nat) : Nat := splitF n 1 n
theorem splitF_lt : ∀ (f k n : Nat), 1 ≤ k → k < n → 1 ≤ splitF f k n ∧ splitF f k n < n
  | 0, k, n, h1, h2 => ⟨h1, h2⟩
  | f + 1, k, n, h1, h2 => by
    unfold splitF
    split
    · exact splitF_lt f (2 * k) n (by omega) (by omega)
    · exact ⟨h1, h2⟩
theorem splitN_lt {n : Nat} (h : 2 ≤ n) : 1 ≤ splitN n ∧ splitN n < n := splitF_lt n 1 n (Nat.le_refl _) (by omega)
theorem splitF_go {f k n : Nat} (h : 2 * k < n) : splitF (f + 1) k n = splitF f (2 * k) n := by rw [splitF, if_pos h]
theorem splitF_end {f k n : Nat} (h : ¬ 2 * k < n) : splitF f k n = k := by
  cases f with
  | zero => rfl
  | succ f => rw [splitF, if_neg h]
def emptyH (z : Int) : ByteArray := cutS ⟨#[]⟩ z
def leafH (z : Int) (d : ByteArray) : ByteArray := cutS (⟨#[0]⟩ ++ d) z
def nodeH (z : Int) (l r : ByteArray) : ByteArray := cutS (⟨#[1]⟩ ++ l ++ r) z
/-- The root of a list's tree. -/
def rootH (z : Int) (l : List ByteArray) : ByteArray :=
  if h : 2 ≤ l.length then nodeH z (rootH z (l.take (splitN l.length))) (rootH z (l.drop (splitN l.length)))
  else match l with
    | [] => emptyH z
    | x :: _ => leafH z x
termination_by l.length
decreasing_by
  · have := splitN_lt h; rw [List.length_take]; omega
  · have := splitN_lt h; rw [List.length_drop]; omega
theorem rootH_nil (z : Int) : rootH z [] = emptyH z := by rw [rootH]; rfl
theorem rootH_one (z : Int) (x : ByteArray) : rootH z [x] = leafH z x := by rw [rootH]; rfl
theorem rootH_more {z : Int} {l : List ByteArray} (h : 2 ≤ l.length) : rootH z l = nodeH z (rootH z (l.take (splitN l.length))) (rootH z (l.drop (splitN l.length))) := by
  rw [rootH, dif_pos h]
theorem rootH_size (z : Int) (l : List ByteArray) : (rootH z l).size ≤ 32 := by
  by_cases h : 2 ≤ l.length
  · rw [rootH_more h]; exact cutS_size _ _
  · match l, h with
    | [], _ => rw [rootH_nil]; exact cutS_size _ _
    | [x], _ => rw [rootH_one]; exact cutS_size _ _
    | _ :: _ :: _, h => exact absurd (by simp) h
theorem StrsAt.front {w : World} {a : Addr} {n c : Nat} {es : List ByteArray} (h : StrsAt w (.slice (some a) n c) es) (k c' : Nat) (hk : k ≤ es.length) : StrsAt w (.slice (some a) k c') (es.take k) := by
  obtain ⟨A, d, hv, hc⟩ := h
  injection hv with e1 e2 e3
  subst e1
  refine ⟨some a, c', by rw [List.length_take, Nat.min_eq_left hk], fun j hj => ⟨a, rfl, ?_⟩⟩
  rw [List.length_take] at hj
  obtain ⟨a', ha, h1⟩ := hc j (by omega)
  injection ha with ha
  subst ha
  rw [h1]
  simp
theorem StrsAt.back {w : World} {a : Addr} {n c : Nat} {es : List ByteArray} (h : StrsAt w (.slice (some a) n c) es) (k c' : Nat) (hk : k ≤ es.length) : StrsAt w (.slice (some (a.add k)) (es.length - k) c') (es.drop k) := by
  obtain ⟨A, d, hv, hc⟩ := h
  injection hv with e1 e2 e3
  subst e1
  refine ⟨some (a.add k), c', by rw [List.length_drop], fun j hj => ⟨a.add k, rfl, ?_⟩⟩
  rw [List.length_drop] at hj
  obtain ⟨a', ha, h1⟩ := hc (k + j) (by omega)
  injection ha with ha
  subst ha
  rw [Addr.add_add, h1]
  simp
end Go.Proofs.YtmkecanibedahaaDoor
