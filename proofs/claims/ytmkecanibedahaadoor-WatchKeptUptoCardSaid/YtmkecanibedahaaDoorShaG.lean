/-
  CONTRACTS of package sha: blocks of a text, a Hash that is written, the sum.
-/
import Derived.Test.YtmkecanibedahaaDoorRows
import Derived.Test.YtmkecanibedahaaDoorWd
import Derived.Test.YtmkecanibedahaaDoorCopyStr
import Derived.Test.YtmkecanibedahaaDoorBytes
import Derived.Test.YtmkecanibedahaaDoorShaD
import Derived.Test.YtmkecanibedahaaDoorShaF
set_option linter.unusedVariables false
set_option linter.unusedSimpArgs false
namespace Go.Proofs.YtmkecanibedahaaDoor
open Go.RowKit Go.Lib
/-- The eight words behind n blocks. -/
def stN (v : List Int) : Nat → List UInt8 → List Int
  | 0, _ => v
  | n + 1, m => stN (comp v (m.take 64)) n (m.drop 64)
theorem comp_length {v : List Int} (h : v.length = 8) (b : List UInt8) : (comp v b).length = 8 := by simp [comp, h, rds_length]
theorem comp_U32 (v : List Int) (b : List UInt8) : U32 (comp v b) := by
  intro x hx
  obtain ⟨i, hi, rfl⟩ := List.mem_iff_getElem.1 hx
  simp only [comp, List.getElem_zipWith]
  omega
theorem stN_length {v : List Int} (h : v.length = 8) : ∀ (n : Nat) (m : List UInt8), (stN v n m).length = 8 := by
  intro n
  induction n generalizing v with
  | zero => intro m; exact h
  | succ n ih => intro m; exact ih (comp_length h _) _
theorem stN_U32 {v : List Int} (h : U32 v) : ∀ (n : Nat) (m : List UInt8), U32 (stN v n m) := by
  intro n
  induction n generalizing v with
  | zero => intro m; exact h
  | succ n ih => intro m; exact ih (comp_U32 _ _) _
theorem stN_add (v : List Int) (a b : Nat) (m : List UInt8) : stN v (a + b) m = stN (stN v a m) b (m.drop (64 * a)) := by
  induction a generalizing v m with
  | zero => simp [stN]
  | succ a ih =>
    rw [show a + 1 + b = (a + b) + 1 from by omega]
    simp only [stN]
    rw [ih, List.drop_drop, show 64 + 64 * a = 64 * (a + 1) from by omega]
theorem stN_take (v : List Int) (n : Nat) (m : List UInt8) (k : Nat) (h : 64 * n ≤ k) : stN v n (m.take k) = stN v n m := by
  induction n generalizing v m k with
  | zero => rfl
  | succ n ih =>
    simp only [stN]
    rw [List.take_take, show min 64 k = 64 from by omega, List.drop_take, ih _ _ _ (by omega)]
theorem stN_append (v : List Int) (n : Nat) (m r : List UInt8) (h : 64 * n ≤ m.length) : stN v n (m ++ r) = stN v n m := by
  have e : (m ++ r).take m.length = m := by simp
  rw [← stN_take v n (m ++ r) m.length h, e]
theorem grown_trans' {a b c : World} {row : Option Nat} (h : a.grownBy b row) (k : b.grownBy c row) : a.grownBy c row :=
  ⟨k.os.trans h.os, k.tape.trans h.tape, k.output.trans h.output, Nat.le_trans h.size k.size, fun i hi hn => (k.block i (Nat.lt_of_lt_of_le hi h.size) hn).trans (h.block i hi hn)⟩
theorem extr64 (s : ByteArray) (k : Nat) (h : 64 * (k + 1) ≤ s.size) (d : Nat) (hd : d = s.size - 64 * k) : (s.extract (64 * k) s.size).extract 64 d = s.extract (64 * (k + 1)) s.size := by
  rw [ByteArray.extract_extract, hd]
  congr 1 <;> omega
theorem take_enters : Enters Tryd.prog 29 := enters_of Tryd.func29 (by kernel_rfl) rfl
set_option maxRecDepth 100000 in
set_option maxHeartbeats 400000 in
theorem blocks_any (T : TypeId) (g : Nat) (v : List Int) (rest : List Value) (s : ByteArray) (w : World) (hs : s.size ≤ maxLen) (hv : v.length = 8) (hu : U32 v) (htab : TabOk w) (hg : 3 < g)
    (hG : Blk w g T (st8 v ++ rest).toArray) :
    Calls Tryd.prog 30 #[.string s, .func (.func 29) #[.pointer (some ⟨g, 0, none⟩)] #[]] w
      fun e w' => e = .returned (.string (s.extract (64 * (s.size / 64)) s.size)) ∧ w.grownBy w' (some g) ∧ Blk w' g T (st8 (stN v (s.size / 64) s.data.toList) ++ rest).toArray := by
  have hs' : s.size ≤ 9223372036854775807 := by simpa [maxLen] using hs
  have Hx0 := hide (And.intro hv (And.intro hu (And.intro htab hG))); clear hv hu htab hG
  go_enter Tryd.func30, Tryd.ntmps30
  go_wp2
  go_loopw [0] (fun x wr => ∃ k : Nat, 64 * k ≤ s.size ∧ x = .string (s.extract (64 * k) s.size) ∧ w.grownBy wr (some g) ∧ Blk wr g T (st8 (stN v k s.data.toList) ++ rest).toArray) (fun x _ => strSize x)
  case atStart => exact ⟨0, by omega, by simp, World.grownBy.refl _ _, (unhide Hx0).2.2.2⟩
  case round =>
    obtain ⟨k, hk, rfl, hgr, hB⟩ := hrel
    by_cases hlt : 64 * (k + 1) ≤ s.size
    · have Hx := hide (And.intro hgr hB); clear hgr hB
      go_wp2_with fail
      have hes : ((s.extract (64 * k) s.size).extract 0 64).size = 64 := by simp; omega
      have hes2 : ((s.extract (64 * k) s.size).extract 0 64).data.toList = (s.data.toList.drop (64 * k)).take 64 := by
        rw [extract_list _ _ _ (by simp; omega), extract_list _ _ _ (Nat.le_refl _)]
        simp
        rw [List.take_take, show min 64 (s.size - 64 * k) = 64 from by omega]
      have Hes := Lib.hid hes; have Hes2 := Lib.hid hes2; clear hes hes2
      obtain ⟨hv, hu, htab, hG⟩ := unhide Hx0
      refine (take_any T g (stN v k s.data.toList) rest _ wr Hes.out (stN_length hv _ _) (stN_U32 hu _ _) (htab.grown (unhide Hx).1 (by omega)) hg (unhide Hx).2).mono ?_
      clear hv hu htab hG
      rintro e w1 ⟨rfl, hgr1, hB1⟩
      have Hy := hide (And.intro hgr1 hB1); clear hgr1 hB1
      go_wp2
      go_roundw
      case rel =>
        obtain ⟨hgr, hB⟩ := unhide Hx
        obtain ⟨hgr1, hB1⟩ := unhide Hy
        refine ⟨k + 1, hlt, ?_, grown_trans' hgr hgr1, ?_⟩
        · rw [extr64 s k hlt _ rfl]
        · rw [stN_add, show stN (stN v k s.data.toList) 1 (s.data.toList.drop (64 * k)) = comp (stN v k s.data.toList) ((s.data.toList.drop (64 * k)).take 64) from rfl, ← Hes2.out]
          exact hB1
      case measure => simp [strSize]; omega
    · have hq : s.size / 64 = k := by omega
      have Hx := hide (And.intro hgr (And.intro hB hq)); clear hgr hB hq
      go_wp2
      go_ret
      obtain ⟨hgr, hB, hq⟩ := unhide Hx
      rw [hq]
      exact ⟨rfl, hgr, hB⟩
end Go.Proofs.YtmkecanibedahaaDoor
