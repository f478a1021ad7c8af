/-
  CONTRACTS of api.Errno's words: texts, Error. (The table is written off the program's text by a program of this work.)
-/
import Derived.Test.YtkjmlcgbakkacaaRows
import Derived.Test.YtkjmlcgbakkacaaWd
set_option linter.unusedVariables false
set_option linter.unusedSimpArgs false
namespace Go.Proofs.Ytkjmlcgbakkacaa
open Go.RowKit

def errTab : List (Int × List UInt8) := [(0, [110, 111, 32, 101, 114, 114, 111, 114]), (10, [111, 117, 116, 32, 111, 102, 32, 114, 97, 110, 103, 101]), (11, [116, 111, 111, 32, 108, 97, 114, 103, 101]), (12, [116, 114, 117, 110, 99, 97, 116, 101, 100]), (13, [110, 111, 116, 32, 99, 97, 110, 111, 110, 105, 99, 97, 108]), (30, [98, 97, 100, 32, 108, 101, 110, 103, 116, 104]), (40, [98, 97, 100, 32, 98, 97, 115, 101, 54, 52]), (41, [98, 97, 100, 32, 104, 101, 120]), (42, [98, 97, 100, 32, 110, 117, 109, 98, 101, 114]), (43, [98, 97, 100, 32, 108, 105, 110, 101]), (44, [98, 97, 100, 32, 101, 115, 99, 97, 112, 101]), (50, [110, 111, 32, 115, 117, 99, 104, 32, 110, 111, 100, 101]), (70, [114, 97, 110, 103, 101, 115, 32, 100, 111, 32, 110, 111, 116, 32, 109, 101, 101, 116]), (71, [119, 114, 111, 110, 103, 32, 110, 117, 109, 98, 101, 114, 32, 111, 102, 32, 104, 97, 115, 104, 101, 115]), (72, [98, 97, 100, 32, 104, 97, 115, 104, 32, 108, 101, 110, 103, 116, 104]), (80, [116, 114, 101, 101, 32, 116, 111, 111, 32, 115, 109, 97, 108, 108]), (81, [105, 110, 100, 101, 120, 32, 111, 117, 116, 32, 111, 102, 32, 116, 114, 101, 101]), (82, [110, 111, 116, 104, 105, 110, 103, 32, 97, 115, 107, 101, 100]), (83, [116, 111, 111, 32, 109, 97, 110, 121]), (84, [105, 110, 100, 101, 120, 101, 115, 32, 110, 111, 116, 32, 114, 105, 115, 105, 110, 103]), (90, [114, 111, 111, 116, 32, 109, 105, 115, 109, 97, 116, 99, 104]), (110, [119, 114, 111, 110, 103, 32, 107, 105, 110, 100]), (111, [116, 114, 97, 105, 108, 105, 110, 103, 32, 98, 121, 116, 101, 115]), (120, [98, 97, 100, 32, 107, 101, 121]), (121, [116, 111, 111, 32, 108, 111, 110, 103]), (122, [115, 116, 111, 114, 101, 32, 102, 117, 108, 108]), (123, [110, 111, 32, 115, 117, 99, 104, 32, 114, 101, 99, 111, 114, 100]), (124, [112, 111, 119, 101, 114, 32, 105, 115, 32, 111, 102, 102]), (125, [98, 97, 100, 32, 105, 109, 97, 103, 101]), (130, [110, 111, 116, 32, 97, 32, 114, 101, 99, 111, 114, 100]), (131, [98, 97, 100, 32, 99, 104, 101, 99, 107, 115, 117, 109]), (132, [114, 101, 99, 111, 114, 100, 32, 115, 112, 111, 105, 108, 116]), (150, [98, 97, 100, 32, 111, 112, 116, 105, 111, 110, 115]), (151, [108, 101, 97, 102, 32, 108, 111, 115, 116]), (180, [110, 111, 32, 109, 97, 110, 105, 102, 101, 115, 116]), (181, [109, 105, 103, 114, 97, 116, 105, 111, 110, 32, 117, 110, 100, 101, 114, 32, 119, 97, 121]), (182, [110, 111, 32, 109, 105, 103, 114, 97, 116, 105, 111, 110]), (183, [115, 97, 109, 101, 32, 101, 110, 103, 105, 110, 101]), (200, [98, 97, 100, 32, 110, 111, 116, 101]), (201, [98, 97, 100, 32, 115, 105, 103, 110, 97, 116, 117, 114, 101]), (202, [110, 111, 116, 32, 115, 105, 103, 110, 101, 100, 32, 98, 121, 32, 97, 32, 107, 110, 111, 119, 110, 32, 107, 101, 121]), (203, [98, 97, 100, 32, 110, 97, 109, 101]), (204, [98, 97, 100, 32, 99, 104, 101, 99, 107, 112, 111, 105, 110, 116]), (210, [113, 117, 111, 116, 97, 32, 101, 120, 99, 101, 101, 100, 101, 100]), (211, [98, 97, 100, 32, 116, 105, 109, 101]), (212, [112, 108, 97, 99, 101, 100, 32, 111, 116, 104, 101, 114, 119, 105, 115, 101]), (220, [117, 110, 107, 110, 111, 119, 110, 32, 108, 111, 103]), (221, [115, 116, 97, 108, 101, 32, 115, 105, 122, 101]), (222, [115, 112, 108, 105, 116, 32, 118, 105, 101, 119]), (230, [98, 97, 100, 32, 112, 97, 116, 104]), (231, [98, 97, 100, 32, 116, 105, 108, 101]), (240, [108, 111, 103, 32, 115, 104, 114, 97, 110, 107]), (241, [108, 111, 103, 32, 102, 111, 114, 107, 101, 100]), (242, [101, 110, 116, 114, 105, 101, 115, 32, 100, 111, 32, 110, 111, 116, 32, 109, 97, 116, 99, 104, 32, 114, 111, 111, 116]), (243, [101, 118, 105, 100, 101, 110, 99, 101, 32, 115, 104, 111, 119, 115, 32, 110, 111, 116, 104, 105, 110, 103]), (250, [100, 105, 118, 105, 115, 105, 111, 110, 32, 98, 121, 32, 122, 101, 114, 111]), (251, [110, 111, 116, 32, 102, 105, 110, 105, 116, 101]), (260, [115, 116, 111, 114, 101, 32, 100, 97, 109, 97, 103, 101, 100]), (270, [98, 97, 100, 32, 114, 101, 113, 117, 101, 115, 116]), (271, [98, 97, 100, 32, 114, 101, 112, 108, 121]), (280, [109, 105, 114, 114, 111, 114, 32, 100, 105, 102, 102, 101, 114, 115]), (290, [109, 97, 112, 32, 114, 111, 111, 116, 32, 109, 105, 115, 109, 97, 116, 99, 104]), (300, [117, 110, 107, 110, 111, 119, 110, 32, 115, 116, 101, 112])]
def errCells : List (Int × List UInt8) → List Value
  | [] => []
  | (c, t) :: r => .int .i64 c :: .string ⟨t.toArray⟩ :: errCells r
/-- The words of a code. -/
def errText (c : Int) : List UInt8 := ((errTab.find? fun x => x.1 == c).map (·.2)).getD [117, 110, 107, 110, 111, 119, 110, 32, 101, 114, 114, 111, 114]
set_option maxRecDepth 100000 in
theorem texts_any (w : World) : Calls Try.prog 31 #[] w fun e w' => e = .returned (.slice (some ⟨w.heap.size, 0, none⟩) 63 63) ∧ w.alloc (.cells (errCells errTab).toArray 60) = w' :=
  calls_run Try.func31 rfl (fun t w v w' h => by
    simp [results, Try.results31] at h
    exact h.2.symm) (by kernel_rfl)
theorem errCells_at : ∀ (L : List (Int × List UInt8)) (k : Nat) (hk : k < L.length), (errCells L)[2 * k]? = some (.int .i64 L[k].1) ∧ (errCells L)[2 * k + 1]? = some (.string ⟨L[k].2.toArray⟩)
  | [], k, hk => by simp at hk
  | (c, t) :: r, 0, hk => by simp [errCells]
  | (c, t) :: r, k + 1, hk => by
    have h := errCells_at r k (by simpa using hk)
    simpa [errCells, Nat.mul_succ] using h
theorem errText_hit (c : Int) (k : Nat) (hk : k < errTab.length) (hb : ∀ j (hj : j < k), errTab[j].1 ≠ c) (h : errTab[k].1 = c) : errText c = errTab[k].2 := by
  have hf : errTab.find? (fun x => x.1 == c) = some errTab[k] := by
    rw [List.find?_eq_some_iff_getElem]
    exact ⟨by simpa using h, k, hk, rfl, fun j hj => by simpa using hb j hj⟩
  unfold errText
  rw [hf]; rfl
theorem errText_miss (c : Int) (hb : ∀ j (hj : j < errTab.length), errTab[j].1 ≠ c) : errText c = [117, 110, 107, 110, 111, 119, 110, 32, 101, 114, 114, 111, 114] := by
  have hf : errTab.find? (fun x => x.1 == c) = none := by
    rw [List.find?_eq_none]
    intro x hx
    obtain ⟨j, hj, rfl⟩ := List.mem_iff_getElem.1 hx
    simpa using hb j hj
  unfold errText
  rw [hf]; rfl
theorem errTab_length : errTab.length = 63 := by decide
set_option maxHeartbeats 400000 in
theorem error_any (c : Int) (w : World) : Calls Try.prog 12 #[.int .i64 c] w fun e w' => e = .returned (.string ⟨(errText c).toArray⟩) ∧ Below w.heap.size w w' := by
  go_enter Try.func12, Try.ntmps12
  go_wp2_with (go_at_call 31; refine (texts_any _).mono ?_; rintro e w1 ⟨rfl, rfl⟩)
  go_loopw [7] (fun i wr => ∃ k : Nat, k ≤ 63 ∧ i = .int .i64 k ∧ wr.heap[w.heap.size]? = some (.cells (errCells errTab).toArray 60 (0, 0)) ∧ Below w.heap.size w wr ∧ ∀ j (hj : j < errTab.length), j < k → errTab[j].1 ≠ c) (fun i _ => 63 - (intOf i).toNat)
  case atStart => exact ⟨0, by omega, rfl, heap_alloc_new w _, (Below.refl _ _).alloc (Nat.le_refl _) _, fun j _ h => by omega⟩
  case round =>
    obtain ⟨k, hk, rfl, hblk, hb, hne⟩ := hrel
    by_cases hlt : k < 63
    · have hl : k < errTab.length := by rw [errTab_length]; exact hlt
      obtain ⟨e1, e2⟩ := errCells_at errTab k hl
      have c1 : wr.cell? ⟨w.heap.size, k * 2, none⟩ = some (.int .i64 errTab[k].1) := by rw [Nat.mul_comm, cell_of_row wr _ _ _ _ _ hblk]; simpa using e1
      have c2 : wr.cell? ⟨w.heap.size, k * 2 + 1, none⟩ = some (.string ⟨errTab[k].2.toArray⟩) := by rw [Nat.mul_comm, cell_of_row wr _ _ _ _ _ hblk]; simpa using e2
      clear e1 e2
      have Hblk := Lib.hid hblk; clear hblk
      have Hne := hide hne; clear hne
      by_cases hc : errTab[k].1 = c
      · have Hhit : Hid (errText c = errTab[k].2) := errText_hit c k hl (fun j hj => Hne.out j (by omega) hj) hc
        rw [hc] at c1; clear hc
        go_wp2
        go_ret
        exact ⟨ret_str (by rw [Hhit.out]), hb.alloc hb.size _⟩
      · generalize hu : errTab[k].1 = u at *
        have Hu := Lib.hid hu; clear hu
        go_wp2
        go_roundw
        case rel =>
          refine ⟨k + 1, by omega, by go_num, ?_, hb.alloc hb.size _, fun j hj h => ?_⟩
          · rw [Below.heap_alloc _ _ _ (lt_of_block Hblk.out)]; exact Hblk.out
          · rcases Nat.lt_succ_iff_lt_or_eq.1 h with h | rfl
            · exact Hne.out j hj h
            · rw [Hu.out]; exact hc
        case measure => simp [intOf]; omega
    · obtain rfl : k = 63 := by omega
      go_wp2
      go_ret
      exact ⟨ret_str (by rw [errText_miss c (fun j hj => hne j hj (by rw [errTab_length] at hj; exact hj))]), hb⟩
end Go.Proofs.Ytkjmlcgbakkacaa
