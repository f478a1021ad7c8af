/-
  CONTRACT of the document's Escape.
-/
import Derived.Test.YtphjpdnheaeghaaDoorRows
import Derived.Test.YtphjpdnheaeghaaDoorWd
import Derived.Test.YtphjpdnheaeghaaDoorDec
import Derived.Test.YtphjpdnheaeghaaDoorUnDec
import Derived.Test.YtphjpdnheaeghaaDoorPlayP
import Derived.StillTailTactics
import Derived.Deep.RegionHeld3
import Derived.Deep.RegionLaw
set_option linter.unusedVariables false
set_option linter.unusedSimpArgs false
namespace Go.Proofs.YtphjpdnheaeghaaDoor
open Go.RowKit Go.Lib
def escP (s : ByteArray) (k : Nat) : ByteArray := ⟨((s.data.toList.take k).flatMap escB).toArray⟩
theorem escP_next (s : ByteArray) (k : Nat) (hk : k < s.size) : escP s (k + 1) = escP s k ++ ⟨(escB s[k]).toArray⟩ := by
  apply bs_eq
  have hkl : k < s.data.toList.length := by rw [Array.length_toList]; exact hk
  unfold escP
  rw [ByteArray.data_append, Array.toList_append]
  simp only []
  rw [List.take_succ_eq_append_getElem hkl, List.flatMap_append]
  simp
  rfl
theorem escP_size (s : ByteArray) (k : Nat) : (escP s k).size ≤ 3 * s.size := by
  have h := escL_len (s.data.toList.take k)
  have hll : s.data.toList.length = s.size := Array.length_toList
  rw [List.length_take] at h
  show (((s.data.toList.take k).flatMap escB).toArray).size ≤ _
  rw [List.size_toArray]
  omega
theorem hex_cut (v : Nat) (h : v < 16) : hexS.extract v (v + 1) = ⟨#[hexB v]⟩ := by
  have e : ∀ n : Fin 16, (hexS.extract n.val (n.val + 1)).data.toList = [hexB n.val] := by decide
  exact bs_eq (e ⟨v, h⟩)
theorem extract_one (s : ByteArray) (k : Nat) (hk : k < s.size) : s.extract k (k + 1) = ⟨#[s[k]]⟩ := by
  apply bs_eq
  have hkl : k < s.data.toList.length := by rw [Array.length_toList]; exact hk
  rw [ByteArray.data_extract, Array.toList_extract]
  show (s.data.toList.drop k).take (k + 1 - k) = _
  rw [show k + 1 - k = 1 from by omega, List.drop_eq_getElem_cons hkl]
  rfl
end Go.Proofs.YtphjpdnheaeghaaDoor
