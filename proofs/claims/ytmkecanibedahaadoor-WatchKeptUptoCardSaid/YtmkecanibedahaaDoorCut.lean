/-
  CONTRACTS of package sha and of the document's answer for it: Cut.
-/
import Derived.Test.YtmkecanibedahaaDoorRows
import Derived.Test.YtmkecanibedahaaDoorWd
import Derived.Test.YtmkecanibedahaaDoorCopyStr
import Derived.Test.YtmkecanibedahaaDoorShaJ
import Derived.Test.YtmkecanibedahaaDoorShaK
set_option linter.unusedVariables false
set_option linter.unusedSimpArgs false
namespace Go.Proofs.YtmkecanibedahaaDoor
open Go.RowKit Go.Lib
/-- The tables that the program's sum reads, and the document's. -/
def PTab (w : World) : Prop := TabOk w ∧ BeginOk w
def RTab (w : World) : Prop := TabOkR w ∧ FirstOk w
theorem PTab.next {w w' : World} (h : PTab w) (hb : Below w.heap.size w w') : PTab w' := ⟨h.1.below hb h.1.lt, h.2.below hb (World.block_lt_of_cell? w _ (h.2 0 (by omega)))⟩
theorem RTab.next {w w' : World} (h : RTab w) (hb : Below w.heap.size w w') : RTab w' := ⟨h.1.below hb (World.block_lt_of_cell? w _ (h.1 0 (by omega))), h.2.below hb (World.block_lt_of_cell? w _ (h.2 0 (by omega)))⟩
theorem PTab.alloc {w : World} (h : PTab w) (o : Obj) : PTab (w.alloc o) := h.next ((Below.refl _ _).alloc (Nat.le_refl _) o)
theorem RTab.alloc {w : World} (h : RTab w) (o : Obj) : RTab (w.alloc o) := h.next ((Below.refl _ _).alloc (Nat.le_refl _) o)
theorem PTab.drew {w : World} (h : PTab w) : PTab w.drew := h
theorem RTab.drew {w : World} (h : RTab w) : RTab w.drew := h
/-- A width outside 1 to 32 counts as 32. -/
def cutW (w : Int) : Nat := if w < 1 ∨ 32 < w then 32 else w.toNat
theorem cutW_le (w : Int) : cutW w ≤ 32 := by unfold cutW; split <;> omega
def cutS (s : ByteArray) (w : Int) : ByteArray := (shaB s).extract 0 (cutW w)
theorem cutS_size (s : ByteArray) (w : Int) : (cutS s w).size ≤ 32 := by
  unfold cutS
  rw [ByteArray.size_extract, shaB_size]
  omega
set_option maxRecDepth 100000 in
theorem cut_any (s : ByteArray) (z : Int) (w : World) (hs : s.size ≤ 562949953421312) (hT : PTab w) :
    Calls Tryd.prog 37 #[.string s, .int .i64 z] w fun e w' => e = .returned (.string (cutS s z)) ∧ Below w.heap.size w w' := by
  have hsu := sum_any s w hs hT.1 hT.2
  have hsz := shaB_size s
  have hcs : Hid (cutS s z = (shaB s).extract 0 (cutW z)) := rfl
  generalize shaB s = D at *
  have HS := hide hsu; clear hsu hT
  by_cases h : z < 1 ∨ 32 < z
  · have hw : Hid (cutW z = 32) := by unfold cutW; rw [Hid, if_pos h]
    rw [hw.out] at hcs
    rcases h with h | h
    · go_enter Tryd.func37, Tryd.ntmps37
      go_wp2_with fail
      refine (unhide HS).mono ?_
      rintro e w1 ⟨rfl, hb⟩
      go_wp2_with fail
      go_ret
      exact ⟨ret_str (by rw [hcs.out]), hb⟩
    · have h1 : ¬ z < 1 := by omega
      go_enter Tryd.func37, Tryd.ntmps37
      go_wp2_with fail
      refine (unhide HS).mono ?_
      rintro e w1 ⟨rfl, hb⟩
      go_wp2_with fail
      go_ret
      exact ⟨ret_str (by rw [hcs.out]), hb⟩
  · obtain ⟨n, rfl⟩ : ∃ n : Nat, z = (n : Int) := ⟨z.toNat, by omega⟩
    have hw : Hid (cutW (n : Int) = n) := by unfold cutW; rw [Hid, if_neg h]; simp
    rw [hw.out] at hcs
    have h1 : ¬ (n : Int) < 1 := by omega
    have h2 : ¬ 32 < (n : Int) := by omega
    clear h
    go_enter Tryd.func37, Tryd.ntmps37
    go_wp2_with fail
    refine (unhide HS).mono ?_
    rintro e w1 ⟨rfl, hb⟩
    go_wp2_with fail
    go_ret
    exact ⟨ret_str (by rw [hcs.out]), hb⟩
theorem width_any (z : Int) (w : World) :
    Calls Tryd.prog 42 #[.int .i64 z] w fun e w' => e = .returned (.int .i64 (cutW z : Int)) ∧ w = w' := by
  by_cases h : z < 1 ∨ 32 < z
  · have hw : Hid (cutW z = 32) := by unfold cutW; rw [Hid, if_pos h]
    rcases h with h | h
    · go_enter Tryd.func42, Tryd.ntmps42
      go_wp2_with fail
      go_ret
      exact ⟨by rw [hw.out]; rfl, rfl⟩
    · have h1 : ¬ z < 1 := by omega
      go_enter Tryd.func42, Tryd.ntmps42
      go_wp2_with fail
      go_ret
      exact ⟨by rw [hw.out]; rfl, rfl⟩
  · obtain ⟨n, rfl⟩ : ∃ n : Nat, z = (n : Int) := ⟨z.toNat, by omega⟩
    have hw : Hid (cutW (n : Int) = n) := by unfold cutW; rw [Hid, if_neg h]; simp
    have h1 : ¬ (n : Int) < 1 := by omega
    have h2 : ¬ 32 < (n : Int) := by omega
    clear h
    go_enter Tryd.func42, Tryd.ntmps42
    go_wp2_with fail
    go_ret
    exact ⟨by rw [hw.out]; rfl, rfl⟩
set_option maxRecDepth 100000 in
theorem rcut_any (s : ByteArray) (z : Int) (w : World) (hs : s.size ≤ 35184372088832) (hT : RTab w) :
    Calls Tryd.prog 34 #[.string s, .int .i64 z] w fun e w' => e = .returned (.string (cutS s z)) ∧ Below w.heap.size w w' := by
  have hsu := rsum_any s w hs hT.1 hT.2
  have hsz := shaB_size s
  have hcs : Hid (cutS s z = (shaB s).extract 0 (cutW z)) := rfl
  have hwd := fun W => width_any z W
  have hle := cutW_le z
  generalize shaB s = D at *
  generalize cutW z = n at *
  have HS := hide hsu; have HW := hide hwd; clear hsu hT hwd
  go_enter Tryd.func34, Tryd.ntmps34
  go_wp2_with fail
  refine (unhide HS).mono ?_
  rintro e w1 ⟨rfl, hb⟩
  go_wp2_with fail
  refine (unhide HW _).mono ?_
  rintro e w2 ⟨rfl, rfl⟩
  go_wp2_with fail
  go_ret
  exact ⟨ret_str (by rw [hcs.out]), hb⟩
end Go.Proofs.YtmkecanibedahaaDoor
