/-
  CONTRACTS of package text: Name.
-/
import Derived.Test.YtfhaoamlagnpjaaDoorRows
import Derived.Test.YtfhaoamlagnpjaaDoorWd
import Derived.Test.YtfhaoamlagnpjaaDoorEach
set_option linter.unusedVariables false
set_option linter.unusedSimpArgs false
namespace Go.Proofs.YtfhaoamlagnpjaaDoor
open Go.RowKit

def nameByte (c : Int) : Bool := decide (32 < c) && decide (c < 127) && (c != 43)

set_option maxHeartbeats 400000 in
theorem nameF_any (c : Int) (w : World) (h0 : 0 ≤ c) (h1 : c ≤ 255) :
    Calls Tryd.prog 74 #[.int .u8 c] w fun e w' => e = .returned (.bool (nameByte c)) ∧ w = w' := by
  go_enter Tryd.func74, Tryd.ntmps74
  go_wp2
  all_goals go_ret
  all_goals exact ⟨ret_bool (by first | (simp [nameByte, *]; done) | (simp [nameByte]; omega)), rfl⟩

/-- Can a key or a log have this name? -/
def nameAll (s : ByteArray) : Bool := s.data.toList.all (fun c => nameByte c.toNat)
def nameOk (s : ByteArray) : Bool := decide (1 ≤ s.size) && decide (s.size ≤ 64) && nameAll s
theorem all_take_size (s : ByteArray) (p : UInt8 → Bool) : ((∀ j (hj : j < s.size), p s[j] = true)) → s.data.toList.all p = true := by
  intro h
  rw [List.all_eq_true]
  intro x hx
  obtain ⟨j, hj, rfl⟩ := List.mem_iff_getElem.1 hx
  simp at hj
  exact h j hj
theorem all_false_at (s : ByteArray) (p : UInt8 → Bool) (j : Nat) (hj : j < s.size) (h : p s[j] = false) : s.data.toList.all p = false := by
  rw [List.all_eq_false]
  refine ⟨s[j], ?_, by simp [h]⟩
  have : s[j] = s.data.toList[j]'(by simpa using hj) := rfl
  rw [this]
  exact List.getElem_mem _
theorem nameF_enters : Enters Tryd.prog 74 := enters_of Tryd.func74 (by kernel_rfl) rfl
theorem nameEach_any (s : ByteArray) (w : World) (hs : s.size ≤ maxLen) :
    Calls Tryd.prog 73 #[.string s, .func (.func 74) #[] #[]] w fun e w' => e = .returned (.bool (nameAll s)) ∧ w = w' := by
  refine (each_inv 74 #[] s (fun k wi => w = wi ∧ ∀ j (hj : j < s.size), j < k → nameByte s[j].toNat = true) (fun b w' => w = w' ∧ b = nameAll s) w hs nameF_enters ⟨rfl, fun j _ h => by omega⟩ ?_ ?_).mono ?_
  · rintro k wi hk ⟨rfl, hb⟩
    have hlt := s[k].toNat_lt
    refine (nameF_any (s[k].toNat : Int) w (by omega) (by omega)).mono ?_
    rintro e w1 ⟨rfl, rfl⟩
    refine ⟨_, rfl, fun h => ⟨rfl, fun j hj hjk => ?_⟩, fun h => ⟨rfl, (all_false_at s _ k hk h).symm⟩⟩
    rcases Nat.lt_succ_iff_lt_or_eq.1 hjk with h' | rfl
    · exact hb j hj h'
    · exact h
  · rintro wi ⟨rfl, hb⟩
    exact ⟨rfl, (all_take_size s _ (fun j hj => hb j hj hj)).symm⟩
  · rintro e w' ⟨b, rfl, rfl, rfl⟩
    exact ⟨rfl, rfl⟩
set_option maxHeartbeats 400000 in
theorem name_any (s : ByteArray) (w : World) (hs : s.size ≤ maxLen) : Calls Tryd.prog 38 #[.string s] w fun e w' => e = .returned (.bool (nameOk s)) ∧ w = w' := by
  have hs' : s.size ≤ 9223372036854775807 := by simpa [maxLen] using hs
  by_cases h1 : s.size < 1
  · have hf : Hid (nameOk s = false) := by simp [Hid, nameOk]; omega
    go_enter Tryd.func38, Tryd.ntmps38
    go_wp2
    go_ret
    exact ⟨ret_bool hf.out.symm, rfl⟩
  · by_cases h2 : 64 < s.size
    · have hf : Hid (nameOk s = false) := by simp [Hid, nameOk]; omega
      go_enter Tryd.func38, Tryd.ntmps38
      go_wp2
      go_ret
      exact ⟨ret_bool hf.out.symm, rfl⟩
    · have hf : Hid (nameOk s = nameAll s) := by
        have e1 : decide (1 ≤ s.size) = true := by simp; omega
        have e2 : decide (s.size ≤ 64) = true := by simp; omega
        simp [Hid, nameOk, e1, e2]
      go_enter Tryd.func38, Tryd.ntmps38
      go_wp2_with fail
      refine (nameEach_any s _ hs).mono ?_
      rintro e w1 ⟨rfl, rfl⟩
      go_wp2
      go_ret
      exact ⟨ret_bool hf.out.symm, rfl⟩
end Go.Proofs.YtfhaoamlagnpjaaDoor
