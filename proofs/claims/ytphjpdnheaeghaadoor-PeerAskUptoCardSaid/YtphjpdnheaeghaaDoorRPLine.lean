/-
  CONTRACT of annalsref22.line.
-/
import Derived.Test.YtphjpdnheaeghaaDoorRows
import Derived.Test.YtphjpdnheaeghaaDoorWd
import Derived.Test.YtphjpdnheaeghaaDoorPeerP
set_option linter.unusedVariables false
set_option linter.unusedSimpArgs false
namespace Go.Proofs.YtphjpdnheaeghaaDoor
open Go.RowKit Go.Lib
/-- What line answers: the bytes up to the next newline, or none. -/
def LineR (b : ByteArray) (at_ : Nat) (e : Ending) : Prop :=
  (∃ i, at_ ≤ i ∧ i < b.size ∧ (∀ (h : i < b.data.toList.length), b.data.toList[i] = 10) ∧ (∀ j (h : j < b.data.toList.length), at_ ≤ j → j < i → b.data.toList[j] ≠ 10) ∧ e = .returned (.tuple #[.string (b.extract at_ i), .int .i64 ((i + 1 : Nat) : Int), .bool true])) ∨
  ((∀ j (h : j < b.data.toList.length), at_ ≤ j → b.data.toList[j] ≠ 10) ∧ e = .returned (.tuple #[.string ⟨#[]⟩, .int .i64 0, .bool false]))
set_option maxRecDepth 100000 in
set_option maxHeartbeats 1000000 in
theorem rpline_any (b : ByteArray) (at_ : Nat) (w : World) (hs : b.size ≤ 1099511627776) (hat : at_ ≤ b.size) :
    Calls Tryd.prog 22 #[.string b, .int .i64 (at_ : Int)] w fun e w' => LineR b at_ e ∧ w = w' := by
  have hll : b.data.toList.length = b.size := Array.length_toList
  have HLL := Lib.hid hll; clear hll
  go_enter Tryd.func22, Tryd.ntmps22
  go_wp2_with fail
  go_loopw [7] (fun i W => ∃ k : Nat, i = .int .i64 (k : Int) ∧ at_ ≤ k ∧ k ≤ b.size ∧ Hid (∀ j (h : j < b.data.toList.length), at_ ≤ j → j < k → b.data.toList[j] ≠ 10) ∧ Hid (w = W)) (fun i _ => b.size - (RowKit.intOf i).toNat)
  case atStart => exact ⟨at_, rfl, Nat.le_refl _, hat, Lib.hid (fun j h h1 h2 => by omega), Lib.hid rfl⟩
  case round =>
    obtain ⟨k, rfl, h1, h2, hno, hw⟩ := hrel
    have hw' := hw.out
    subst hw'
    have t0 : (0 : Int) ≤ (k : Int) := by omega
    rcases Nat.lt_or_ge k b.size with hlt | hge
    · have t1 : (k : Int) < (b.size : Int) := by omega
      have qb : k ≤ 1099511627776 := by omega
      have hix : (b[k]'hlt).toNat < 256 := b[k].toNat_lt
      by_cases hc : b[k] = 10
      · have hcc : ((b[k].toNat : Int) == 10) = true := by rw [hc]; rfl
        have hsl1 : (at_ : Int) ≤ (k : Int) := by omega
        have hsl0 : (0 : Int) ≤ (at_ : Int) := by omega
        have hsl2 : (k : Int) ≤ (b.size : Int) := by omega
        have HC := Lib.hid hc; clear hc
        go_wp2_with fail
        go_ret3
        exact ⟨.inl ⟨k, h1, hlt, fun h => HC.out, hno.out, rfl⟩, by first | trivial | rfl⟩
      · have hcc : ((b[k].toNat : Int) == 10) = false := by
          rw [beq_eq_false_iff_ne]
          exact fun e => hc (UInt8.toNat_inj.1 (by rw [show (10 : UInt8).toNat = 10 from rfl]; omega))
        have HC := Lib.hid hc; clear hc
        go_wp2_with fail
        exact ⟨⟨k + 1, by go_num, by omega, by omega, Lib.hid (fun j h g1 g2 => by
          rcases Nat.lt_succ_iff_lt_or_eq.1 g2 with h' | rfl
          · exact hno.out j h g1 h'
          · exact HC.out), Lib.hid (by first | trivial | rfl)⟩, by simp [RowKit.intOf]; omega⟩
    · have t1 : ¬ (k : Int) < (b.size : Int) := by omega
      go_wp2_with fail
      go_ret3
      exact ⟨.inr ⟨fun j h g1 => hno.out j h g1 (by have := HLL.out; omega), rfl⟩, by first | trivial | rfl⟩
end Go.Proofs.YtphjpdnheaeghaaDoor
