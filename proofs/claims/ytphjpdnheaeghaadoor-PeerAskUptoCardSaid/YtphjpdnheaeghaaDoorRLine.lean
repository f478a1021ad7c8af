/-
  CONTRACT of the document's line: a step's line in a script.
-/
import Derived.Test.YtphjpdnheaeghaaDoorRows
import Derived.Test.YtphjpdnheaeghaaDoorWd
import Derived.Test.YtphjpdnheaeghaaDoorStrRow
import Derived.Test.YtphjpdnheaeghaaDoorDec
import Derived.Test.YtphjpdnheaeghaaDoorREsc
import Derived.Test.YtphjpdnheaeghaaDoorRRow
import Derived.StillTailTactics
import Derived.Deep.RegionHeld3
import Derived.Deep.RegionLaw
import Derived.Deep.DeepCutAuto
import Derived.Deep.CutBlock
import Derived.Deep.CutRange
set_option linter.unusedVariables false
set_option linter.unusedSimpArgs false
namespace Go.Proofs.YtphjpdnheaeghaaDoor
open Go.RowKit Go.Lib
/-- A list of numbers as the program reads it. -/
def IntsAt (w : World) (v : Value) (l : List Int) : Prop := ∃ A c, v = .slice A l.length c ∧ ∀ j (h : j < l.length), ∃ a, A = some a ∧ w.cell? (a.add j) = some (.int .i64 l[j])
theorem IntsAt.below {w w' : World} {v : Value} {l : List Int} (h : IntsAt w v l) (hb : Below w.heap.size w w') : IntsAt w' v l := by
  obtain ⟨A, c, hv, he⟩ := h
  refine ⟨A, c, hv, fun j hj => ?_⟩
  obtain ⟨a, ha, hc⟩ := he j hj
  exact ⟨a, ha, (hb.cell (World.block_lt_of_cell? w _ hc)).trans hc⟩
theorem IntsAt.of_blk {w : World} {g : Nat} {t : TypeId} {c : Nat} (l : List Int) (h : Blk w g t (l.map (Value.int .i64)).toArray) : IntsAt w (.slice (some ⟨g, 0, none⟩) l.length c) l := by
  refine ⟨_, c, rfl, fun j hj => ⟨_, rfl, ?_⟩⟩
  have hadd : (⟨g, 0, none⟩ : Addr).add j = ⟨g, j, none⟩ := by unfold Addr.add; split <;> simp_all
  rw [hadd, h.cell j]
  simp [hj]
/-- How long texts are in all, a sign more for each. -/
def sizeS (ss : List ByteArray) : Nat := ss.foldr (fun x n => x.size + 1 + n) 0
/-- A number that an int holds. -/
def In64 (n : Int) : Prop := -9223372036854775808 ≤ n ∧ n ≤ 9223372036854775807
/-- The line so far: the word, and so many numbers. -/
def lnT (wd : ByteArray) (L : List Int) (i : Nat) : ByteArray := ⟨(wd.data.toList ++ spaced ((List.range i).map (numS L))).toArray⟩
theorem lnT_zero (wd : ByteArray) (L : List Int) : lnT wd L 0 = wd := by
  apply bs_eq
  unfold lnT
  simp [spaced]
theorem lnT_next (wd : ByteArray) (L : List Int) (i : Nat) : lnT wd L (i + 1) = lnT wd L i ++ ⟨#[32]⟩ ++ decS (L.getD i 0) := by
  apply bs_eq
  unfold lnT
  simp only [ByteArray.data_append, Array.toList_append]
  rw [List.range_succ, List.map_append]
  unfold spaced numS
  simp
theorem decS_size {n : Int} (h : In64 n) : (decS n).size ≤ 20 := by
  show (decL n).toArray.size ≤ 20
  rw [List.size_toArray]
  unfold decL
  obtain ⟨h0, h1⟩ := h
  split
  · have := digL_length 19 n.toNat (by omega) (by omega); omega
  · have := digL_length 19 (-n).toNat (by omega) (by omega)
    rw [List.length_cons]; omega
theorem lnT_size (wd : ByteArray) (L : List Int) (hL : ∀ n ∈ L, In64 n) : ∀ i, (lnT wd L i).size ≤ wd.size + 21 * i
  | 0 => by rw [lnT_zero]; omega
  | i + 1 => by
    have ih := lnT_size wd L hL i
    have hv : In64 (L.getD i 0) := by
      rw [List.getD_eq_getElem?_getD]
      cases h : L[i]? with
      | none => exact ⟨by decide, by decide⟩
      | some x => exact hL x (List.mem_of_getElem? h)
    have := decS_size hv
    rw [lnT_next, ByteArray.size_append, ByteArray.size_append]
    have e1 : (⟨#[32]⟩ : ByteArray).size = 1 := rfl
    omega
theorem shapeAt_small : ∀ k : Fin 35, (shapeAt k.val).wd.size ≤ 10 ∧ (shapeAt k.val).a ≤ 4 ∧ (shapeAt k.val).b ≤ 2 := by decide
theorem sizeS_mem : ∀ {ss : List ByteArray} {x : ByteArray}, x ∈ ss → x.size ≤ sizeS ss
  | y :: r, x, h => by
    show _ ≤ y.size + 1 + sizeS r
    rcases List.mem_cons.1 h with rfl | h
    · omega
    · have := sizeS_mem h; omega
theorem sizeS_len : ∀ ss : List ByteArray, ss.length ≤ sizeS ss
  | [] => Nat.le_refl _
  | y :: r => by
    show r.length + 1 ≤ y.size + 1 + sizeS r
    have := sizeS_len r; omega
/-- The line so far: what stands ahead, and so many texts. -/
def lnS (T : ByteArray) (ss : List ByteArray) (j : Nat) : ByteArray := ⟨(T.data.toList ++ spaced ((List.range j).map (txtS ss))).toArray⟩
theorem lnS_zero (T : ByteArray) (ss : List ByteArray) : lnS T ss 0 = T := by
  apply bs_eq
  unfold lnS
  simp [spaced]
theorem lnS_next (T : ByteArray) (ss : List ByteArray) (j : Nat) : lnS T ss (j + 1) = lnS T ss j ++ ⟨#[32]⟩ ++ escS (ss.getD j ⟨#[]⟩) := by
  apply bs_eq
  unfold lnS
  simp only [ByteArray.data_append, Array.toList_append]
  rw [List.range_succ, List.map_append]
  unfold spaced txtS
  simp
theorem getD_size (ss : List ByteArray) (j : Nat) : (ss.getD j ⟨#[]⟩).size ≤ sizeS ss := by
  rw [List.getD_eq_getElem?_getD]
  cases h : ss[j]? with
  | none => exact Nat.zero_le _
  | some x => exact sizeS_mem (List.mem_of_getElem? h)
theorem lnS_size (T : ByteArray) (ss : List ByteArray) (h : sizeS ss ≤ 1048576) : ∀ j, (lnS T ss j).size ≤ T.size + 3145730 * j
  | 0 => by rw [lnS_zero]; omega
  | j + 1 => by
    have ih := lnS_size T ss h j
    have h1 := getD_size ss j
    have h2 := escS_size (ss.getD j ⟨#[]⟩)
    rw [lnS_next, ByteArray.size_append, ByteArray.size_append]
    have e1 : (⟨#[32]⟩ : ByteArray).size = 1 := rfl
    omega
theorem line_eq (F : ShapeR) (k : Int) (a b c d e f : Int) (ns L : List Int) (ss : List ByteArray) (N0 N1 N2 : Nat) (hL : (if F.opts = true then [a, b, c, d, e, f] else ns) = L) (hN0 : (if F.opts = true then 6 else F.a) = N0)
    (hN1 : (if F.more = 1 ∧ N0 < L.length then L.length else N0) = N1) (hN2 : (if F.more = 2 ∧ F.b < ss.length then ss.length else F.b) = N2) :
    lnS (lnT F.wd L N1) ss N2 ++ ⟨#[10]⟩ = ⟨(joinSp (wordsD F ⟨k, [a, b, c, d, e, f], ns, ss⟩) ++ [10]).toArray⟩ := by
  apply bs_eq
  rw [ByteArray.data_append, Array.toList_append]
  unfold wordsD
  rw [joinSp_cons]
  have hs : cntS F ⟨k, [a, b, c, d, e, f], ns, ss⟩ = N2 := hN2
  rw [hs]
  have hsp : ∀ x y : List ByteArray, spaced (x ++ y) = spaced x ++ spaced y := fun x y => List.flatMap_append
  rw [hsp]
  have hn : (List.range N1).map (numS L) = if F.opts = true then [a, b, c, d, e, f].map decS else (List.range (cntN F ⟨k, [a, b, c, d, e, f], ns, ss⟩)).map (numS ns) := by
    by_cases ho : F.opts = true
    · rw [if_pos ho] at hL hN0 ⊢
      subst hL; subst hN0
      have h6 : N1 = 6 := by rw [← hN1]; simp
      subst h6
      rfl
    · rw [if_neg ho] at hL hN0 ⊢
      subst hL; subst hN0
      have hc : cntN F ⟨k, [a, b, c, d, e, f], ns, ss⟩ = N1 := hN1
      rw [hc]
  rw [← hn]
  unfold lnS lnT
  simp
end Go.Proofs.YtphjpdnheaeghaaDoor
