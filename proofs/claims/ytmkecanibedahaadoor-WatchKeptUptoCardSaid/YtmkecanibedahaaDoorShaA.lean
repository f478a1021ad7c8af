/-
  CONTRACTS of package sha and of its reference: turning, numbers out of bytes.
-/
import Derived.Test.YtmkecanibedahaaDoorRows
import Derived.Test.YtmkecanibedahaaDoorWd
set_option linter.unusedVariables false
set_option linter.unusedSimpArgs false
namespace Go.Proofs.YtmkecanibedahaaDoor
open Go.RowKit
/-- x turned right by n bits, as the reference writes it. -/
def rotr (x : Int) (n : Nat) : Int := bits .or .u32 (x / 2 ^ n) (x * 2 ^ (32 - n) % 4294967296)
theorem bits_or_comm (k : IntKind) (a b : Int) : bits .or k a b = bits .or k b a := by
  cases k <;> simp [bits, BitVec.or_comm]
theorem neg_and (n : Nat) (hn : 0 < n) (hn2 : n < 32) : bits .and .u64 (IntKind.u64.wrap (-(n : Int))) 31 = ((32 - n : Nat) : Int) := by
  have h : ∀ n : Nat, n < 32 → 0 < n → bits .and .u64 (IntKind.u64.wrap (-(n : Int))) 31 = ((32 - n : Nat) : Int) := by decide +kernel
  exact h n hn2 hn
set_option maxHeartbeats 400000 in
theorem rotl_any (x : Int) (n : Nat) (w : World) (h0 : 0 ≤ x) (h1 : x < 4294967296) (hn : 0 < n) (hn2 : n < 32) :
    Calls Tryd.prog 48 #[.int .u32 x, .int .i64 (-(n : Int))] w fun e w' => e = .returned (.int .u32 (rotr x n)) ∧ w = w' := by
  have hna := neg_and n hn hn2
  generalize hm : 32 - n = m at hna
  have Hm := Lib.hid hm; clear hm
  have hm1 : m < 32 := by have := Hm.out; omega
  have hm2 : 0 < m := by have := Hm.out; omega
  go_enter Tryd.func48, Tryd.ntmps48
  go_wp2
  go_ret
  refine ⟨?_, rfl⟩
  show Ending.returned (.int .u32 (bits .or .u32 (x * 2 ^ m % 4294967296) (x / 2 ^ (32 - m)))) = _
  have e1 : 32 - n = m := Hm.out
  have e2 : 32 - m = n := by omega
  unfold rotr
  rw [e1, e2, bits_or_comm]
set_option maxHeartbeats 400000 in
theorem rotr_any (x : Int) (n : Nat) (w : World) (h0 : 0 ≤ x) (h1 : x < 4294967296) (hn : 0 < n) (hn2 : n < 32) :
    Calls Tryd.prog 36 #[.int .u32 x, .int .u64 n] w fun e w' => e = .returned (.int .u32 (rotr x n)) ∧ w = w' := by
  go_enter Tryd.func36, Tryd.ntmps36
  go_wp2
  go_ret
  exact ⟨rfl, rfl⟩
theorem rotr_int (x : Int) (n : Int) (w : World) (h0 : 0 ≤ x) (h1 : x < 4294967296) (hn : 0 < n) (hn2 : n < 32) :
    Calls Tryd.prog 36 #[.int .u32 x, .int .u64 n] w fun e w' => e = .returned (.int .u32 (rotr x n.toNat)) ∧ w = w' := by
  obtain ⟨m, rfl⟩ := Int.eq_ofNat_of_zero_le (Int.le_of_lt hn)
  rw [Int.toNat_natCast]
  exact rotr_any x m w h0 h1 (by omega) (by omega)
theorem rotr_range (x : Int) (n : Nat) : 0 ≤ rotr x n ∧ rotr x n < 4294967296 := by
  unfold rotr bits
  simp only [IntKind.wrap_u32]
  omega
set_option maxHeartbeats 400000 in
theorem turned_any (x : Int) (n : Int) (w : World) (h0 : 0 ≤ x) (h1 : x < 4294967296) (hn : 0 < n) (hn2 : n < 32) :
    Calls Tryd.prog 40 #[.int .u32 x, .int .i64 n] w fun e w' => e = .returned (.int .u32 (rotr x n.toNat)) ∧ w = w' := by
  obtain ⟨m, rfl⟩ := Int.eq_ofNat_of_zero_le (Int.le_of_lt hn)
  rw [Int.toNat_natCast]
  have hm : 0 < m := by omega
  have hm2 : m < 32 := by omega
  go_enter Tryd.func40, Tryd.ntmps40
  go_wp2_with fail
  refine (rotl_any x m _ h0 h1 hm hm2).mono ?_
  rintro e w1 ⟨rfl, rfl⟩
  go_wp2
  go_ret
  exact ⟨rfl, rfl⟩
/-- The number that four bytes are. -/
def be4 (a b c d : Int) : Int := ((a * 256 + b) * 256 + c) * 256 + d
def beN (l : List UInt8) : Int := l.foldl (fun v b => v * 256 + b.toNat) 0
theorem beN_snoc (l : List UInt8) (b : UInt8) : beN (l ++ [b]) = beN l * 256 + b.toNat := by simp [beN]
theorem beN_lt : ∀ (k : Nat) (l : List UInt8), l.length = k → 0 ≤ beN l ∧ beN l < 256 ^ k := by
  intro k
  induction k with
  | zero => intro l hl; obtain rfl := List.eq_nil_of_length_eq_zero hl; simp [beN]
  | succ k ih =>
    intro l hl
    have hne : l ≠ [] := by rintro rfl; simp at hl
    obtain ⟨l', b, rfl⟩ : ∃ l' b, l = l' ++ [b] := ⟨l.dropLast, l.getLast hne, (List.dropLast_concat_getLast hne).symm⟩
    have hl' : l'.length = k := by simp at hl; omega
    have h := ih l' hl'
    have hb := b.toNat_lt
    rw [beN_snoc, Int.pow_succ]
    omega
theorem or8 (v b : Int) (h0 : 0 ≤ v) (h1 : v < 16777216) (h2 : 0 ≤ b) (h3 : b < 256) : bits .or .u32 (v * 256) b = v * 256 + b := by
  rw [u32_or _ _ (by omega) (by omega) h2 (by omega), nat_join 8 _ _ (by omega) (by omega)]
  omega
theorem take_snoc (s : ByteArray) (k : Nat) (h : k < s.size) : s.data.toList.take (k + 1) = s.data.toList.take k ++ [s[k]] := by
  rw [List.take_succ_eq_append_getElem (by simpa using h)]; rfl
set_option maxHeartbeats 400000 in
theorem number_any (s : ByteArray) (w : World) (hs : s.size ≤ 4) :
    Calls Tryd.prog 47 #[.string s] w fun e w' => e = .returned (.int .u32 (beN s.data.toList)) ∧ w = w' := by
  go_enter Tryd.func47, Tryd.ntmps47
  go_wp2
  go_loop [3, 7] (fun v i => ∃ k : Nat, k ≤ s.size ∧ i = .int .i64 k ∧ v = .int .u32 (beN (s.data.toList.take k))) (fun _ i => s.size - (intOf i).toNat)
  case atStart => exact ⟨0, Nat.zero_le _, rfl, rfl⟩
  case round =>
    obtain ⟨k, hk, rfl, rfl⟩ := hrel
    by_cases hlt : k < s.size
    · have hts := take_snoc s k hlt
      have hl : (s.data.toList.take k).length = k := by simp; omega
      have hv := beN_lt k _ hl
      have hv1 : beN (s.data.toList.take k) < 16777216 := by
        have hp : (256 : Int) ^ k ≤ 16777216 := by
          have hk4 : k = 0 ∨ k = 1 ∨ k = 2 ∨ k = 3 := by omega
          rcases hk4 with h | h | h | h <;> rw [h] <;> decide
        have := hv.2
        omega
      have hv0 := hv.1
      have hb : ((s[k]'hlt).toNat : Int) < 256 := by have := s[k].toNat_lt; omega
      have HS : Hid (beN (s.data.toList.take (k + 1)) = beN (s.data.toList.take k) * 256 + (s[k].toNat : Int)) := by rw [hts]; exact beN_snoc _ _
      have hor := or8 _ _ hv0 hv1 (Int.natCast_nonneg (s[k].toNat)) hb
      clear hts hv hl
      go_wp2
      go_round
      case rel => exact ⟨k + 1, by omega, by go_num, by rw [HS.out]⟩
      case measure => simp [intOf]; omega
    · go_wp2
      go_ret
      exact ⟨ret_int (by rw [List.take_of_length_le (by simp; omega)]), rfl⟩
theorem orJoin (i : Nat) (a b : Int) (h0 : 0 ≤ a) (h1 : a < 4294967296) (h2 : 0 ≤ b) (h3 : b < 4294967296) (ha : a.toNat % 2 ^ i = 0) (hb : b.toNat < 2 ^ i) : bits .or .u32 a b = a + b := by
  rw [u32_or _ _ h0 h1 h2 h3, nat_join i _ _ ha hb]
  omega
theorem or4 (b0 b1 b2 b3 : UInt8) : bits .or .u32 (bits .or .u32 (bits .or .u32 ((b0.toNat : Int) * 16777216) ((b1.toNat : Int) * 65536)) ((b2.toNat : Int) * 256)) (b3.toNat : Int) = beN [b0, b1, b2, b3] := by
  have h0 := b0.toNat_lt
  have h1 := b1.toNat_lt
  have h2 := b2.toNat_lt
  have h3 := b3.toNat_lt
  rw [orJoin 24 ((b0.toNat : Int) * 16777216) ((b1.toNat : Int) * 65536) (by omega) (by omega) (by omega) (by omega) (by omega) (by omega)]
  rw [orJoin 16 ((b0.toNat : Int) * 16777216 + (b1.toNat : Int) * 65536) ((b2.toNat : Int) * 256) (by omega) (by omega) (by omega) (by omega) (by omega) (by omega)]
  rw [orJoin 8 ((b0.toNat : Int) * 16777216 + (b1.toNat : Int) * 65536 + (b2.toNat : Int) * 256) (b3.toNat : Int) (by omega) (by omega) (by omega) (by omega) (by omega) (by omega)]
  simp only [beN, List.foldl_cons, List.foldl_nil]
  omega
set_option maxHeartbeats 400000 in
/-- The reference's word: the four bytes from p on. -/
theorem word_nat (g : Nat) (n c : Nat) (p : Nat) (b0 b1 b2 b3 : UInt8) (w : World) (hn : n ≤ maxLen) (hp : p + 3 < n)
    (c0 : w.cell? ⟨g, p, none⟩ = some (.int .u8 b0.toNat)) (c1 : w.cell? ⟨g, p + 1, none⟩ = some (.int .u8 b1.toNat)) (c2 : w.cell? ⟨g, p + 2, none⟩ = some (.int .u8 b2.toNat)) (c3 : w.cell? ⟨g, p + 3, none⟩ = some (.int .u8 b3.toNat)) :
    Calls Tryd.prog 43 #[.slice (some ⟨g, 0, none⟩) n c, .int .i64 p] w fun e w' => e = .returned (.int .u32 (beN [b0, b1, b2, b3])) ∧ ∃ k, w' = w.drewN k := by
  have hn' : n ≤ 9223372036854775807 := by simpa [maxLen] using hn
  have h0 := b0.toNat_lt
  have h1 := b1.toNat_lt
  have h2 := b2.toNat_lt
  have h3 := b3.toNat_lt
  go_enter Tryd.func43, Tryd.ntmps43
  have s1 : IntKind.i64.wrap ((p : Int) + 1) = p + 1 := IntWalk.i64_in _ (by omega)
  have s2 : IntKind.i64.wrap ((p : Int) + 2) = p + 2 := IntWalk.i64_in _ (by omega)
  have s3 : IntKind.i64.wrap ((p : Int) + 3) = p + 3 := IntWalk.i64_in _ (by omega)
  have t1 : ((p : Int) + 1).toNat = p + 1 := by omega
  have t2 : ((p : Int) + 2).toNat = p + 2 := by omega
  have t3 : ((p : Int) + 3).toNat = p + 3 := by omega
  have g1 : ((p : Int) + 1) < n := by omega
  have g2 : ((p : Int) + 2) < n := by omega
  have g3 : ((p : Int) + 3) < n := by omega
  have g0 : ((p : Int)) < n := by omega
  have f1 : 0 ≤ ((p : Int) + 1) := by omega
  have f2 : 0 ≤ ((p : Int) + 2) := by omega
  have f3 : 0 ≤ ((p : Int) + 3) := by omega
  have f0 : 0 ≤ (p : Int) := by omega
  go_wp2
  go_quiet (fail)
  go_wp2
  go_ret
  exact ⟨ret_int (or4 b0 b1 b2 b3), _, rfl⟩
theorem word_any (g : Nat) (n c : Nat) (p : Int) (b0 b1 b2 b3 : UInt8) (w : World) (hn : n ≤ maxLen) (hp0 : 0 ≤ p) (hp : p + 3 < n)
    (c0 : w.cell? ⟨g, p.toNat, none⟩ = some (.int .u8 b0.toNat)) (c1 : w.cell? ⟨g, p.toNat + 1, none⟩ = some (.int .u8 b1.toNat)) (c2 : w.cell? ⟨g, p.toNat + 2, none⟩ = some (.int .u8 b2.toNat)) (c3 : w.cell? ⟨g, p.toNat + 3, none⟩ = some (.int .u8 b3.toNat)) :
    Calls Tryd.prog 43 #[.slice (some ⟨g, 0, none⟩) n c, .int .i64 p] w fun e w' => e = .returned (.int .u32 (beN [b0, b1, b2, b3])) ∧ ∃ k, w' = w.drewN k := by
  obtain ⟨q, rfl⟩ := Int.eq_ofNat_of_zero_le hp0
  exact word_nat g n c q b0 b1 b2 b3 w hn (by omega) c0 c1 c2 c3
end Go.Proofs.YtmkecanibedahaaDoor
