/-
  CONTRACTS of package text: each.
-/
import Derived.Test.YtphjpdnheaeghaaDoorRows
import Derived.Test.YtphjpdnheaeghaaDoorWd
set_option linter.unusedVariables false
set_option linter.unusedSimpArgs false
namespace Go.Proofs.YtphjpdnheaeghaaDoor
open Go.RowKit

set_option maxRecDepth 100000 in
/-- each: the function is called at the bytes in their order till it says false. -/
theorem each_inv (f : FuncId) (cap : Array Value) (s : ByteArray) (I : Nat → World → Prop) (R : Bool → World → Prop) (w : World) (hs : s.size ≤ maxLen) (hent : Enters Tryd.prog f) (h0 : I 0 w)
    (step : ∀ k wi (hk : k < s.size), I k wi → Calls Tryd.prog f (#[.int .u8 (s[k].toNat : Int)] ++ cap) wi fun e w' => ∃ b, e = .returned (.bool b) ∧ (b = true → I (k + 1) w') ∧ (b = false → R false w'))
    (fin : ∀ wi, I s.size wi → R true wi) :
    Calls Tryd.prog 33 #[.string s, .func (.func f) #[] cap] w fun e w' => ∃ b, e = .returned (.bool b) ∧ R b w' := by
  unfold maxLen at hs
  go_enter Tryd.func33, Tryd.ntmps33
  go_wp2
  go_loopw [5] (fun i wi => ∃ k : Nat, k ≤ s.size ∧ i = .int .i64 k ∧ I k wi) (fun i _ => s.size - (intOf i).toNat)
  case atStart => exact ⟨0, by omega, rfl, h0⟩
  case round =>
    obtain ⟨k, hk, rfl, hI⟩ := hrel
    by_cases hlt : k < s.size
    · have hst := step k wr hlt hI
      clear step fin
      have Hst := hide hst; clear hst
      have hix : (s[k]'hlt).toNat < 256 := s[k].toNat_lt
      go_wp2_with fail
      rw [hent, Oper.upon_enter]
      refine (unhide Hst).mono ?_
      rintro e w1 ⟨b, rfl, h1, h2⟩
      cases b
      · have h3 := hide (h2 rfl)
        clear h1 h2
        go_wp2
        go_ret
        exact ⟨false, rfl, unhide h3⟩
      · have h3 := hide (h1 rfl)
        clear h1 h2
        go_wp2
        go_roundw
        case rel => exact ⟨k + 1, by omega, by go_num, unhide h3⟩
        case measure => simp [intOf]; omega
    · obtain rfl : k = s.size := by omega
      have hf := hide (fin wr hI)
      go_wp2
      go_ret
      exact ⟨true, rfl, unhide hf⟩
end Go.Proofs.YtphjpdnheaeghaaDoor
