/-
  CONTRACT of mac.Same: are two codes the same?
-/
import Derived.Test.YtphoflcilpopgaaGreatDoorRows
import Derived.Deep.QuietTactic
import Derived.BigQuiet
import Derived.Test.YtphoflcilpopgaaGreatDoorGBase
import Derived.Test.YtphoflcilpopgaaGreatDoorGMacs
set_option linter.unusedVariables false
set_option linter.unusedSimpArgs false
namespace Go.Proofs.YtphoflcilpopgaaGreatDoor
open Go.RowKit Go.Lib
theorem u8_or (a b : UInt8) : bits .or .u8 (a.toNat : Int) (b.toNat : Int) = ((a ||| b).toNat : Int) := by
  have e : ∀ c : UInt8, (BitVec.ofInt 8 (c.toNat : Int)).toNat = c.toNat := fun c => by
    rw [BitVec.ofInt_natCast, BitVec.toNat_ofNat]; exact Nat.mod_eq_of_lt c.toNat_lt
  have hx : (a ||| b).toNat < 2 ^ 8 := (a ||| b).toNat_lt
  show IntKind.u8.wrap ((BitVec.ofInt 8 (a.toNat : Int) ||| BitVec.ofInt 8 (b.toNat : Int)).toNat : Int) = _
  rw [BitVec.toNat_or, e, e, ← UInt8.toNat_or]
  simp [IntKind.wrap, IntKind.bits, IntKind.signed] at hx ⊢
  omega
theorem or_zero_iff (x y : UInt8) : x ||| y = 0 ↔ x = 0 ∧ y = 0 := by
  rw [← UInt8.toBitVec_inj, UInt8.toBitVec_or, ← UInt8.toBitVec_inj, ← UInt8.toBitVec_inj]
  exact BitVec.or_eq_zero_iff
theorem xor_zero_iff (x y : UInt8) : x ^^^ y = 0 ↔ x = y := by
  rw [← UInt8.toBitVec_inj, UInt8.toBitVec_xor, ← UInt8.toBitVec_inj]
  exact BitVec.xor_eq_zero_iff
theorem bytes_ext {a b : ByteArray} (hs : a.size = b.size) (h : ∀ j (ha : j < a.size) (hb : j < b.size), a[j] = b[j]) : a = b := by
  apply ByteArray.ext
  exact Array.ext hs fun i h1 h2 => h i h1 h2
set_option maxRecDepth 100000 in
set_option maxHeartbeats 1000000 in
theorem same_any (a b : ByteArray) (w : World) (ha : a.size ≤ 1099511627776) (hb : b.size ≤ 1099511627776) :
    Calls Tryz.prog 21 #[.string a, .string b] w fun e w' => e = .returned (.bool (decide (a = b))) ∧ ∃ n, w' = w.drewN n := by
  by_cases hs : a.size = b.size
  · have hs' : (!((a.size : Int) == (b.size : Int))) = false := by rw [hs]; simp
    have hs1 : a.size ≤ b.size := by omega
    have hs2 : b.size ≤ a.size := by omega
    have hs3 : (a.size : Int) ≤ (b.size : Int) := by omega
    have HS := Lib.hid hs; clear hs
    go_enter Tryz.func21, Tryz.ntmps21
    go_wp2_with fail
    go_loopw [5, 14] (fun u i wr => ∃ (k : Nat) (x : UInt8), k ≤ a.size ∧ i = .int .i64 k ∧ u = .int .u8 (x.toNat : Int) ∧ Hid (x = 0 ↔ ∀ j (ha : j < a.size) (hb : j < b.size), j < k → a[j] = b[j]) ∧ Hid (∃ n, wr = w.drewN n)) (fun _ i _ => a.size - (RowKit.intOf i).toNat)
    case atStart => exact ⟨0, 0, by omega, rfl, rfl, Lib.hid ⟨fun _ j _ _ h => by omega, fun _ => rfl⟩, Lib.hid ⟨0, rfl⟩⟩
    case round =>
      obtain ⟨k, x, hk, rfl, rfl, hI, hw⟩ := hrel
      rcases Nat.lt_or_ge k a.size with hlt | hge
      · have hlb : k < b.size := by omega
        have hi1 : (k : Int) < (a.size : Int) := by omega
        have hi2 : (k : Int) < (b.size : Int) := by omega
        have hst : Hid (x ||| (a[k] ^^^ b[k]) = 0 ↔ ∀ j (ha : j < a.size) (hb : j < b.size), j < k + 1 → a[j] = b[j]) := by
          show _ ↔ _
          rw [or_zero_iff, xor_zero_iff]
          constructor
          · rintro ⟨h1, h2⟩ j hja hjb hj
            rcases Nat.lt_succ_iff_lt_or_eq.1 hj with h | rfl
            · exact hI.out.1 h1 j hja hjb h
            · exact h2
          · intro h
            exact ⟨hI.out.2 (fun j hja hjb hj => h j hja hjb (by omega)), h k hlt hlb (by omega)⟩
        have hxo := u8_xor a[k] b[k]
        have hoo := u8_or x (a[k] ^^^ b[k])
        clear hI
        go_wp2_with fail
        go_quiet (fail)
        go_wp2_with fail
        go_roundw
        case rel =>
          refine ⟨k + 1, x ||| (a[k] ^^^ b[k]), by omega, by go_num, by rw [← UInt8.toNat_xor, hoo], hst, ?_⟩
          obtain ⟨n, rfl⟩ := hw.out
          exact Lib.hid ⟨_, World.drewN_drewN _ _ _⟩
        case measure => simp [RowKit.intOf]; omega
      · have hd : Hid (decide (x = 0) = decide (a = b)) := by
          have h : x = 0 ↔ a = b := ⟨fun h0 => bytes_ext HS.out (fun j h1 h2 => hI.out.1 h0 j h1 h2 (by omega)), fun h0 => hI.out.2 (fun j h1 h2 _ => by subst h0; rfl)⟩
          exact decide_eq_decide.2 h
        have hx0 : Hid (((x.toNat : Int) == 0) = decide (x = 0)) := by
          rw [Hid, Bool.eq_iff_iff, beq_iff_eq, decide_eq_true_eq]
          exact ⟨fun h => UInt8.toNat_inj.1 (by show x.toNat = 0; omega), fun h => by subst h; rfl⟩
        clear hI
        go_wp2_with fail
        go_ret
        exact ⟨by rw [← hd.out, ← hx0.out]; rfl, hw.out⟩
  · have hs' : (!((a.size : Int) == (b.size : Int))) = true := by rw [Bool.not_eq_true', beq_eq_false_iff_ne]; omega
    have hd : Hid (decide (a = b) = false) := decide_eq_false (fun e => hs (by rw [e]))
    go_enter Tryz.func21, Tryz.ntmps21
    go_wp2_with fail
    go_ret
    exact ⟨by rw [hd.out]; rfl, 0, rfl⟩
end Go.Proofs.YtphoflcilpopgaaGreatDoor
