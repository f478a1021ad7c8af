/-
  CONTRACT of the document's Name.
-/
import Derived.Test.YtfhaoamlagnpjaaDoorRows
import Derived.Test.YtfhaoamlagnpjaaDoorWd
import Derived.Test.YtfhaoamlagnpjaaDoorName
set_option linter.unusedVariables false
set_option linter.unusedSimpArgs false
namespace Go.Proofs.YtfhaoamlagnpjaaDoor
open Go.RowKit
set_option maxRecDepth 100000 in
set_option maxHeartbeats 1000000 in
theorem rname_any (s : ByteArray) (w : World) (hs : s.size ≤ maxLen) : Calls Tryd.prog 40 #[.string s] w fun e w' => e = .returned (.bool (nameOk s)) ∧ w = w' := by
  have hs' : s.size ≤ 9223372036854775807 := by simpa [maxLen] using hs
  go_enter Tryd.func40, Tryd.ntmps40
  go_wp2_with fail
  go_loopw [3] (fun i wr => ∃ k : Nat, k ≤ s.size ∧ i = .int .i64 k ∧ Hid (w = wr) ∧ Hid (∀ j (hj : j < s.size), j < k → nameByte s[j].toNat = true)) (fun i _ => s.size - (intOf i).toNat)
  case atStart => exact ⟨0, by omega, rfl, rfl, fun j _ h => by omega⟩
  case round =>
    obtain ⟨k, hk, rfl, hw, hb⟩ := hrel
    obtain rfl := hw.out
    rcases Nat.lt_or_ge k s.size with hlt | hge
    · have hu := s[k].toNat_lt
      by_cases h1 : s[k].toNat < 33
      · have hf : Hid (nameOk s = false) := by
          have : nameAll s = false := all_false_at s _ k hlt (by simp [nameByte]; omega)
          simp [Hid, nameOk, this]
        go_wp2_with fail
        go_ret
        exact ⟨ret_bool hf.out.symm, rfl⟩
      · by_cases h2 : 126 < s[k].toNat
        · have hf : Hid (nameOk s = false) := by
            have : nameAll s = false := all_false_at s _ k hlt (by simp [nameByte]; omega)
            simp [Hid, nameOk, this]
          go_wp2_with fail
          go_ret
          exact ⟨ret_bool hf.out.symm, rfl⟩
        · by_cases h3 : s[k].toNat = 43
          · have hf : Hid (nameOk s = false) := by
              have : nameAll s = false := all_false_at s _ k hlt (by simp [nameByte, h3])
              simp [Hid, nameOk, this]
            go_wp2_with fail
            go_ret
            exact ⟨ret_bool hf.out.symm, rfl⟩
          · have ht : Hid (nameByte s[k].toNat = true) := by simp [Hid, nameByte]; omega
            have h3' : ((s[k].toNat : Int) == 43) = false := by simp; omega
            go_wp2_with fail
            refine ⟨⟨k + 1, by omega, by go_num, Lib.hid trivial, fun j hj hjk => ?_⟩, by simp [intOf]; omega⟩
            rcases Nat.lt_succ_iff_lt_or_eq.1 hjk with h' | rfl
            · exact hb.out j hj h'
            · exact ht.out
    · have ha : Hid (nameAll s = true) := all_take_size s _ (fun j hj => hb.out j hj (by omega))
      have hz : Hid (nameOk s = (decide (1 ≤ s.size) && decide (s.size ≤ 64))) := by simp [Hid, nameOk, ha.out]
      by_cases h0 : 1 ≤ s.size
      · have hz : Hid (nameOk s = decide (((s.size : Nat) : Int) ≤ 64)) := by
          rw [Hid, hz.out]; simp [h0]; omega
        clear hb ha
        go_wp2_with fail
        go_ret
        exact ⟨ret_bool hz.out.symm, rfl⟩
      · have hz : Hid (nameOk s = false) := by rw [Hid, hz.out]; simp [h0]
        clear hb ha
        go_wp2_with fail
        go_ret
        exact ⟨ret_bool hz.out.symm, rfl⟩
end Go.Proofs.YtfhaoamlagnpjaaDoor
