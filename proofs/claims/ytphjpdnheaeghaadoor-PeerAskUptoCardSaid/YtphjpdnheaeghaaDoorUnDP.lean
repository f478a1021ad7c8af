/-
  THE PLAIN LAW of numbers read back: whoever reads the digits of a number finds it, the program's way and the document's.
-/
import Derived.Test.YtphjpdnheaeghaaDoorRows
import Derived.Test.YtphjpdnheaeghaaDoorDec
set_option linter.unusedVariables false
set_option linter.unusedSimpArgs false
namespace Go.Proofs.YtphjpdnheaeghaaDoor
open Go.RowKit
theorem wrap64_mod (x : Int) : ∃ k : Int, wrap64 x = x + k * 18446744073709551616 := by
  refine ⟨-((x + 9223372036854775808) / 18446744073709551616), ?_⟩
  unfold wrap64
  omega
theorem wrap64_of (x y : Int) (k : Int) (h : x = y + k * 18446744073709551616) : wrap64 x = wrap64 y := by
  subst h
  unfold wrap64
  omega
theorem stepA (x a b : Int) (h : 10 * x + a - 48 = b) : wrap64 (10 * wrap64 x + a - 48) = wrap64 b := by
  obtain ⟨k, hk⟩ := wrap64_mod x
  rw [hk]
  exact wrap64_of _ _ (10 * k) (by omega)
theorem stepB (x a b : Int) (h : 10 * x - (a - 48) = b) : wrap64 (10 * wrap64 x - (a - 48)) = wrap64 b := by
  obtain ⟨k, hk⟩ := wrap64_mod x
  rw [hk]
  exact wrap64_of _ _ (10 * k) (by omega)
theorem wrap64_lo (x : Int) : -9223372036854775808 ≤ wrap64 x ∧ wrap64 x ≤ 9223372036854775807 := by unfold wrap64; omega
theorem wrap64_id (x : Int) (h0 : -9223372036854775808 ≤ x) (h1 : x ≤ 9223372036854775807) : wrap64 x = x := by unfold wrap64; omega
theorem wrap64_neg (x : Int) (h0 : -9223372036854775808 ≤ x) (h1 : x ≤ 9223372036854775807) (m : Int) (h : m = -x) : wrap64 (-(wrap64 m)) = x := by
  subst h
  obtain ⟨k, hk⟩ := wrap64_mod (-x)
  rw [hk, wrap64_of _ x (-k) (by omega), wrap64_id x h0 h1]
/-- One digit more, the program's way and the document's. -/
def undStep (n : Int) (c : UInt8) : Int := wrap64 (10 * n + (c.toNat : Int) - 48)
def rundStep (n : Int) (c : UInt8) : Int := if 48 ≤ c.toNat ∧ c.toNat ≤ 57 then wrap64 (10 * n - ((c.toNat : Int) - 48)) else n
theorem dig_nat (d : Nat) (h : d < 10) : ((48 + d).toUInt8).toNat = 48 + d := by
  have e : ((48 + d).toUInt8).toNat = (48 + d) % 256 := UInt8.toNat_ofNat' ..
  omega
theorem und_dig (m : Nat) : (digL m).foldl undStep 0 = wrap64 m := by
  induction m using Nat.strongRecOn with
  | _ m ih =>
    rcases Nat.lt_or_ge m 10 with h | h
    · rw [digL_lt h]
      rw [List.foldl_cons, List.foldl_nil, undStep, dig_nat m h]
      have e : (10 * 0 + ((48 + m : Nat) : Int) - 48) = (m : Int) := by omega
      rw [e]
    · have hm := Nat.mod_lt m (y := 10) (by omega)
      rw [digL_ge h, List.foldl_append, ih _ (by omega)]
      rw [List.foldl_cons, List.foldl_nil, undStep, dig_nat _ hm]
      have e : 10 * ((m / 10 : Nat) : Int) + ((48 + m % 10 : Nat) : Int) - 48 = (m : Int) := by omega
      rw [stepA _ _ _ e]
theorem rund_dig (m : Nat) : (digL m).foldl rundStep 0 = wrap64 (-(m : Int)) := by
  induction m using Nat.strongRecOn with
  | _ m ih =>
    rcases Nat.lt_or_ge m 10 with h | h
    · rw [digL_lt h]
      rw [List.foldl_cons, List.foldl_nil, rundStep, dig_nat m h, if_pos (by omega)]
      have e : (10 * 0 - (((48 + m : Nat) : Int) - 48)) = -(m : Int) := by omega
      rw [e]
    · have hm := Nat.mod_lt m (y := 10) (by omega)
      rw [digL_ge h, List.foldl_append, ih _ (by omega)]
      rw [List.foldl_cons, List.foldl_nil, rundStep, dig_nat _ hm, if_pos (by omega)]
      have e : 10 * (-((m / 10 : Nat) : Int)) - (((48 + m % 10 : Nat) : Int) - 48) = -(m : Int) := by omega
      rw [stepB _ _ _ e]
theorem digL_ne (m : Nat) : digL m ≠ [] := by
  rcases Nat.lt_or_ge m 10 with h | h
  · rw [digL_lt h]; simp
  · rw [digL_ge h]; simp
theorem digL_head (m : Nat) : (digL m).head? ≠ some 45 := by
  induction m using Nat.strongRecOn with
  | _ m ih =>
    rcases Nat.lt_or_ge m 10 with h | h
    · rw [digL_lt h, List.head?_cons]
      intro e
      injection e with e
      have := congrArg UInt8.toNat e
      rw [dig_nat m h] at this
      rw [show (45 : UInt8).toNat = 45 from rfl] at this
      omega
    · rw [digL_ge h, List.head?_append]
      have hn := ih (m / 10) (by omega)
      cases hd : (digL (m / 10)).head? with
      | none => exact absurd (List.head?_eq_none_iff.1 hd) (digL_ne _)
      | some x => rw [hd] at hn; exact hn
/-- The number that a text might be. -/
def undL (l : List UInt8) : Int := match l with
  | 45 :: r => wrap64 (-(r.foldl undStep 0))
  | l => l.foldl undStep 0
def rundL (l : List UInt8) : Int := if l.head? = some 45 then l.foldl rundStep 0 else wrap64 (-(l.foldl rundStep 0))
theorem undL_neg (r : List UInt8) : undL (45 :: r) = wrap64 (-(r.foldl undStep 0)) := rfl
theorem undL_pos (l : List UInt8) (h : l.head? ≠ some 45) : undL l = l.foldl undStep 0 := by
  unfold undL
  split
  · exact absurd rfl h
  · rfl
theorem undL_dec (z : Int) (h0 : -9223372036854775808 ≤ z) (h1 : z ≤ 9223372036854775807) : undL (decL z) = z := by
  unfold decL
  split
  · rw [undL_pos _ (digL_head _), und_dig, wrap64_id _ (by omega) (by omega)]
    omega
  · rw [undL_neg, und_dig]
    exact wrap64_neg z h0 h1 _ (by omega)
theorem rundL_dec (z : Int) (h0 : -9223372036854775808 ≤ z) (h1 : z ≤ 9223372036854775807) : rundL (decL z) = z := by
  unfold decL rundL
  split
  · rw [if_neg (digL_head _), rund_dig]
    exact wrap64_neg z h0 h1 _ (by omega)
  · rw [if_pos (List.head?_cons ..), List.foldl_cons, show rundStep 0 45 = 0 from rfl, rund_dig, wrap64_id _ (by omega) (by omega)]
    omega
theorem und_fold_lo (l : List UInt8) : ∀ n : Int, -9223372036854775808 ≤ n ∧ n ≤ 9223372036854775807 → -9223372036854775808 ≤ l.foldl undStep n ∧ l.foldl undStep n ≤ 9223372036854775807 := by
  induction l with
  | nil => exact fun n h => h
  | cons c r ih => exact fun n h => ih _ (wrap64_lo _)
theorem rund_fold_lo (l : List UInt8) : ∀ n : Int, -9223372036854775808 ≤ n ∧ n ≤ 9223372036854775807 → -9223372036854775808 ≤ l.foldl rundStep n ∧ l.foldl rundStep n ≤ 9223372036854775807 := by
  induction l with
  | nil => exact fun n h => h
  | cons c r ih =>
    intro n h
    refine ih _ ?_
    unfold rundStep
    split
    · exact wrap64_lo _
    · exact h
theorem undL_lo (l : List UInt8) : -9223372036854775808 ≤ undL l ∧ undL l ≤ 9223372036854775807 := by
  unfold undL
  split
  · exact wrap64_lo _
  · exact und_fold_lo _ _ (by omega)
theorem rundL_lo (l : List UInt8) : -9223372036854775808 ≤ rundL l ∧ rundL l ≤ 9223372036854775807 := by
  unfold rundL
  split
  · exact rund_fold_lo _ _ (by omega)
  · exact wrap64_lo _
theorem decL_ne (z : Int) : decL z ≠ [] := by
  unfold decL
  split
  · exact digL_ne _
  · simp
theorem decL_length (z : Int) (h0 : -9223372036854775808 ≤ z) (h1 : z ≤ 9223372036854775807) : (decL z).length ≤ 20 := by
  unfold decL
  split
  · have := digL_length 19 z.toNat (by omega) (by omega)
    omega
  · have := digL_length 19 (-z).toNat (by omega) (by omega)
    simp
    omega
/-- The number that is written so, if one is. -/
def undV (s : ByteArray) : Option Int := if decS (undL s.data.toList) = s then some (undL s.data.toList) else none
theorem undV_of {s : ByteArray} {z : Int} (h0 : -9223372036854775808 ≤ z) (h1 : z ≤ 9223372036854775807) (h : decS z = s) : undV s = some z := by
  have e : s.data.toList = decL z := by rw [← h]; rfl
  unfold undV
  rw [e, undL_dec z h0 h1, if_pos h]
theorem undV_none {s : ByteArray} (h : ∀ z : Int, -9223372036854775808 ≤ z → z ≤ 9223372036854775807 → decS z ≠ s) : undV s = none := by
  unfold undV
  rw [if_neg (h _ (undL_lo _).1 (undL_lo _).2)]
theorem undV_some {s : ByteArray} {z : Int} (h : undV s = some z) : decS z = s ∧ -9223372036854775808 ≤ z ∧ z ≤ 9223372036854775807 := by
  unfold undV at h
  split at h
  · injection h with h
    subst h
    exact ⟨by assumption, undL_lo _⟩
  · cases h
theorem undV_size {s : ByteArray} (h : s.size = 0 ∨ 20 < s.size) : undV s = none := by
  refine undV_none fun z h0 h1 e => ?_
  have h2 := decL_length z h0 h1
  have h3 := List.length_pos_iff.2 (decL_ne z)
  have h4 : s.size = (decL z).length := by rw [← e]; simp [decS, ByteArray.size]
  omega
theorem undV_back {s : ByteArray} {z : Int} (h0 : -9223372036854775808 ≤ z) (h1 : z ≤ 9223372036854775807) (h2 : ∀ y : Int, -9223372036854775808 ≤ y → y ≤ 9223372036854775807 → decS y = s → z = y) : undV s = if decS z = s then some z else none := by
  split
  · exact undV_of h0 h1 (by assumption)
  · refine undV_none fun y hy0 hy1 e => ?_
    obtain rfl := h2 y hy0 hy1 e
    contradiction
end Go.Proofs.YtphjpdnheaeghaaDoor
